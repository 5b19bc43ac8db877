/- The abstract machine's operations that write or make memory (append among them), and that the real ones do the same. Conditions: none. -/
import Derived.Test.YteadbbimikcmgaaAbsStep
set_option linter.unusedSimpArgs false
set_option linter.unusedVariables false
namespace Go.Proofs.Yteadbbimikcmgaa
open Go

section
variable {P : Program} {ρ ρ' : Nat → Option Loc} {S S' : Mem} {w w' : World} {v : Value}

theorem firstOf_sound {size n : Nat} {x x' : Value} {l : List Value} (hS : SR ρ S w) (h : firstOf S size n x = some l) (hx : VR ρ x x') :
    ∃ l', LR ρ l l' ∧ ∀ w2 : World, w2.heap = w.heap → (Builtin.firstCells size n x').run P w2 = .ok l'.toArray w2 := by
  unfold firstOf at h
  split at h
  · rename_i a m c
    obtain ⟨a0, c', rfl, ha1, _⟩ := hx.slInv
    obtain ⟨a', rfl, h1, h2, h3⟩ := ha1 a rfl
    split at h
    · rename_i h0
      cases h
      refine ⟨[], LR.nil ρ, fun w2 _ => ?_⟩
      simp [Builtin.firstCells, h0, loadCells, loadCellsFrom]
    · obtain ⟨l', hr, hlen, _, hcell⟩ := cellsAt_real hS h h1 h2 h3
      refine ⟨l', hr, fun w2 hw2 => ?_⟩
      have := run_loadCells_list (P := P) w2 a' l' (fun j u hu => by
        have := hcell j u hu
        simpa [World.cell?, hw2] using this)
      rw [hlen] at this
      simpa [Builtin.firstCells] using this
  · split at h
    · rename_i hor
      cases h
      rcases hor with h0 | h0
      · have e := hx.scalar_eq (by simpa [scalar] using h0)
        subst e
        exact ⟨[], LR.nil ρ, fun w2 _ => by simp [Builtin.firstCells]⟩
      · obtain ⟨a0, c', rfl, _⟩ := hx.slInv
        refine ⟨[], LR.nil ρ, fun w2 _ => ?_⟩
        cases a0 <;> simp [Builtin.firstCells, h0, loadCells, loadCellsFrom]
    · cases h
  · rename_i s
    have e := hx.scalar_eq rfl
    subst e
    cases h
    refine ⟨_, scalars_LR ρ (by rw [List.all_eq_true]; intro y hy; obtain ⟨b, _, rfl⟩ := List.mem_map.1 hy; rfl), fun w2 _ => ?_⟩
    simp only [Builtin.firstCells, Sem.run_pure]
    congr 1
    apply Array.ext'
    simp [ByteArray.data_extract, List.extract_eq_take_drop]
  · cases h

theorem lenOf_sound {x x' : Value} {m : Nat} (h : lenOf' x = some m) (hx : VR ρ x x') (w2 : World) : (Builtin.lenOf x').run P w2 = .ok m w2 := by
  unfold lenOf' at h
  split at h
  · cases h
    obtain ⟨a0, c', rfl, _⟩ := hx.slInv
    simp [Builtin.lenOf]
  · have e := hx.scalar_eq rfl
    subst e
    cases h
    simp [Builtin.lenOf]
  · cases h

theorem append_fits_run {ts xs ty e : TypeId} {i : TypeInfo} {dx : TypeDesc} {base : Option Addr} {n c m : Nat} {x : Value} {news : List Value} (hts : P.underlying ts = some (.slice e)) (hxs : P.underlying xs = some dx)
    (hni : dx = .string ∨ ∃ e2, dx = .slice e2) (hi : P.info? e = some i) (hm : (Builtin.lenOf x).run P w = .ok m w) (hfit : n + m ≤ c) (hnews : (Builtin.firstCells i.size m x).run P w = .ok news.toArray w)
    (hst : ∀ a, base = some a → (storeCells (a.add (n * i.size)) news).run P w = .ok () w') (hnone : base = none → w' = w) :
    (Builtin.append_ #[ts, xs] ty #[.slice base n c, x]).run P w = .ok (.slice base (n + m) c) w' := by
  unfold Builtin.append_
  rcases hni with rfl | ⟨e2, rfl⟩
  all_goals
   simp only [List.getElem?_toArray, List.getElem?_cons_zero, List.getElem?_cons_succ, Sem.run_bind, run_underlying' hts, run_underlying' hxs, Result.andThen_ok, sizeOf, typeInfo, run_program, hi, Sem.run_pure, Bool.false_eq_true, if_false, hm, hfit, if_true, Bool.not_false, hnews]
   cases base with
   | none => simp [hnone rfl]
   | some a => simp [hst a rfl]

theorem nextcap_le (need c : Nat) (h : ¬ need ≤ c) : Builtin.nextslicecap need c ≤ 2 * need + 768 := by
  unfold Builtin.nextslicecap
  split
  · omega
  · split
    · omega
    · have grow : ∀ (k x : Nat), x ≤ need + need / 4 + 192 → Builtin.growBy need k x ≤ need + need / 4 + 192 := by
        intro k
        induction k with
        | zero => intro x hx; exact hx
        | succ k ih =>
          intro x hx
          unfold Builtin.growBy
          split
          · exact hx
          · exact ih _ (by omega)
      have := grow 4 c (by omega)
      omega

theorem append_grow_run {ts xs ty e : TypeId} {i : TypeInfo} {z : Value} {dx : TypeDesc} {base : Option Addr} {n c m : Nat} {x : Value} {news old : List Value} (hts : P.underlying ts = some (.slice e)) (hxs : P.underlying xs = some dx)
    (hni : dx = .string ∨ ∃ e2, dx = .slice e2) (hi : P.info? e = some i) (hzero : i.zero = some z) (hm : (Builtin.lenOf x).run P w = .ok m w) (hfit : ¬ n + m ≤ c) (hroom : roomy (n + m) i.bytes)
    (hold : (Builtin.firstCells i.size n (.slice base n c)).run P w.drew = .ok old.toArray w.drew) (hnews : (Builtin.firstCells i.size m x).run P w.drew = .ok news.toArray w.drew) :
    ∃ cap, n + m ≤ cap ∧ (Builtin.append_ #[ts, xs] ty #[.slice base n c, x]).run P w = .ok (.slice (some ⟨w.heap.size, 0, none⟩) (n + m) cap)
      (w.drew.alloc (.cells (old.toArray ++ news.toArray ++ Builtin.zeroCells z.cells (cap - (n + m))) e)) := by
  obtain ⟨r1, r2, r3, r4⟩ := hroom
  have hnc := nextcap_le (n + m) c hfit
  have hno : ¬ (Builtin.nextslicecap (n + m) c * i.bytes > 2 ^ 48) := by
    have h1 := Nat.mul_le_mul_right i.bytes hnc
    have h2 : (2 * (n + m) + 768) * i.bytes = 2 * ((n + m) * i.bytes) + 768 * i.bytes := by rw [Nat.add_mul, Nat.mul_assoc]
    omega
  have hmax : IntKind.i64.max = 9223372036854775807 := rfl
  have hno2 : ¬ (((n + m : Nat) : Int) > IntKind.i64.max ∧ (False ∨ i.bytes = 0)) := by omega
  refine ⟨(Question.appendCap (n + m) c e).cut (w.tape w.drawn (.appendCap (n + m) c e)), by simp [Question.cut], ?_⟩
  unfold Builtin.append_
  rcases hni with rfl | ⟨e2, rfl⟩
  all_goals
   simp only [List.getElem?_toArray, List.getElem?_cons_zero, List.getElem?_cons_succ, Sem.run_bind, run_underlying' hts, run_underlying' hxs, Result.andThen_ok, sizeOf, typeInfo, run_program, hi, Sem.run_pure, Bool.false_eq_true, if_false, hm, hfit, Bool.not_false, if_true]
   rw [Sem.run_ite, if_neg (by simpa using hno2)]
   simp only [Sem.run_bind, typeInfo, run_program, hi, Sem.run_pure, Result.andThen_ok]
   rw [Sem.run_ite, if_neg hno]
   simp only [Sem.run_bind, run_choose, Question.forced, Bool.false_eq_true, if_false, Result.andThen_ok, World.drew_eq, run_askRoom, hold, hnews, zeroValue, typeInfo, run_program, hi, hzero, Sem.run_pure, newRow, run_newObj, World.alloc_eq]
   rfl

theorem add_at {a a' : Addr} (k : Nat) (hb : At ρ a.block a'.block) (ho : a'.off = a.off) (hs : a'.spot = a.spot) :
    At ρ (a.add k).block (a'.add k).block ∧ (a'.add k).off = (a.add k).off ∧ (a'.add k).spot = (a.add k).spot := by
  unfold Addr.add
  split
  · exact ⟨hb, ho, hs⟩
  · exact ⟨hb, by simp [ho], rfl⟩

theorem LR.toL {l l' : List Value} (h : LR ρ l l') {i : Nat} {u : Value} (hu : l[i]? = some u) : ∃ u', l'[i]? = some u' ∧ VR ρ u u' := h.get hu

/-- the row that an append has made, beside the block that it has made -/
theorem grown_push {e : TypeId} {i : TypeInfo} {z : Value} {old old' news news' : List Value} {n m cap : Nat} (hS : SR ρ S w) (ho : LR ρ old old') (hn : LR ρ news news') (hol : old.length = n * i.size) (hnl : news.length = m * i.size)
    (hz : z.cells.size = i.size) (hcap : n + m ≤ cap) :
    ∃ v' ρ', VR ρ' (.slice (some ⟨S.length, 0, none⟩) (n + m) (UNK + (n + m))) v' ∧ v' = .slice (some ⟨w.heap.size, 0, none⟩) (n + m) cap ∧
      SR ρ' (S ++ [grownR (old ++ news) e i.size]) (w.drew.alloc (.cells (old'.toArray ++ news'.toArray ++ Builtin.zeroCells z.cells (cap - (n + m))) e)) ∧
      Stp ρ S w ρ' (S ++ [grownR (old ++ news) e i.size]) (w.drew.alloc (.cells (old'.toArray ++ news'.toArray ++ Builtin.zeroCells z.cells (cap - (n + m))) e)) := by
  have hc : (old'.toArray ++ news'.toArray ++ Builtin.zeroCells z.cells (cap - (n + m))).size = cap * i.size := by
    simp only [Array.size_append, List.size_toArray, size_zeroCells, hz, ← ho.1, ← hn.1, hol, hnl]
    rw [← Nat.add_mul, ← Nat.add_mul]
    congr 1
    omega
  obtain ⟨ρ', h1, h2, h3⟩ := hS.drew.push (w' := w.drew.alloc (.cells (old'.toArray ++ news'.toArray ++ Builtin.zeroCells z.cells (cap - (n + m))) e)) (grownR (old ++ news) e i.size) _ (0, 0) rfl rfl rfl rfl i.size (by
      rw [hc]; simp only [grownR, List.length_append, hol, hnl, ← Nat.add_mul]; exact Nat.mul_le_mul_right _ hcap) nofun (fun _ => rfl) rfl (fun j _ h => by simp at h) (fun j u hu => by
      have hL := (ho.append hn).get hu
      obtain ⟨u', hu', hr⟩ := hL
      refine ⟨u', ?_, hr⟩
      have : ((old' ++ news') ++ (Builtin.zeroCells z.cells (cap - (n + m))).toList)[j]? = some u' := by
        rw [List.getElem?_append_left (List.getElem?_eq_some_iff.1 hu').1]; exact hu'
      simpa [← Array.getElem?_toList] using this)
  refine ⟨_, ρ', ?_, rfl, h2, (Stp.drew ρ S w).trans h3⟩
  refine .sl _ _ _ _ _ ⟨_, h1, rfl⟩ rfl rfl ⟨fun h => by omega, fun _ => ⟨by omega, _, h1, fun _ => ?_⟩⟩
  show cap * i.size ≤ _
  rw [hc]
  exact Nat.le_refl _

set_option maxHeartbeats 1000000 in
theorem aappend_sound {ts xs ty : TypeId} {s x s' x' : Value} (hS : SR ρ S w) (h : aappend P ts xs s x S = some (v, S')) (hs : VR ρ s s') (hx : VR ρ x x') :
    ∃ v' ρ' w', VR ρ' v v' ∧ SR ρ' S' w' ∧ Stp ρ S w ρ' S' w' ∧ (Builtin.append_ #[ts, xs] ty #[s', x']).run P w = .ok v' w' := by
  unfold aappend at h
  split at h
  · rename_i e dx base n c hts hxs
    split at h
    · rename_i i hi hdx
      have hni : dx = .string ∨ ∃ e2, dx = .slice e2 := by
        cases dx <;> first | exact .inl rfl | exact .inr ⟨_, rfl⟩ | cases hdx
      split at h
      · rename_i z m hz hm
        rw [Option.bind_eq_some_iff] at h
        obtain ⟨news, hnews, h⟩ := h
        rw [Option.bind_eq_some_iff] at h
        obtain ⟨old, hold, h⟩ := h
        obtain ⟨base', c', rfl, hb1, hb2, hc1, hc2, hC⟩ := hs.slInv
        obtain ⟨news', hnr, hnrun⟩ := firstOf_sound (P := P) hS hnews hx
        obtain ⟨old', hor, horun⟩ := firstOf_sound (P := P) hS hold hs
        have hmrun := lenOf_sound (P := P) hm hx w
        split at h
        · cases h
        · rename_i hzz
          have hzs : z.cells.size = i.size := by
            by_cases e : z.cells.size = i.size
            · exact e
            · exact absurd (.inl e) hzz
          split at h
          · rename_i hfit
            have hfit' : n + m ≤ c' := by
              unfold knownCap at hfit
              cases base with
              | none =>
                rcases hb2 rfl with h0 | h0
                · rw [h0.2]; split at hfit <;> omega
                · split at hfit <;> omega
              | some a =>
                split at hfit
                · rename_i h1; rw [hc1 h1]; exact hfit
                · have := hc2 (by omega); omega
            cases base with
            | some a =>
              obtain ⟨a', rfl, g1, g2, g3⟩ := hb1 a rfl
              simp only [] at h
              split at h
              · rename_i hnil
                cases h
                have hn' : news' = [] := List.eq_nil_of_length_eq_zero (by rw [← hnr.1, hnil]; rfl)
                refine ⟨_, ρ, w, .sl a a' _ _ _ g1 g2 g3 (hC a rfl), hS, Stp.refl _ _ _, append_fits_run hts hxs hni hi hmrun hfit' (hnrun w rfl) (fun y hy => ?_) nofun⟩
                subst hn'
                simp [storeCells]
              · rw [Option.map_eq_some_iff] at h
                obtain ⟨S1, hS1, h⟩ := h
                cases h
                obtain ⟨q1, q2, q3⟩ := add_at (n * i.size) g1 g2 g3
                obtain ⟨w1, hrun, hs1, hs2⟩ := write_sound (P := P) hS hS1 hnr q1 q2 q3
                exact ⟨_, ρ, w1, .sl a a' _ _ _ g1 g2 g3 (hC a rfl), hs1, hs2, append_fits_run hts hxs hni hi hmrun hfit' (hnrun w rfl) (fun y hy => by cases hy; exact hrun) nofun⟩
            | none =>
              simp only [] at h
              split at h
              · rename_i hnil
                obtain ⟨rfl, rfl⟩ : base' = none ∧ c' = c := by rcases hb2 rfl with h0 | h0; exact h0; omega
                cases h
                exact ⟨_, ρ, w, .slNil _ _, hS, Stp.refl _ _ _, append_fits_run hts hxs hni hi hmrun hfit' (hnrun w rfl) nofun (fun _ => rfl)⟩
              · cases h
          · rename_i hfit
            split at h
            · rename_i hroom
              obtain ⟨hro, hnl, hol⟩ := hroom
              split at h
              · rename_i hcu
                cases h
                have hcc := hc1 hcu
                subst hcc
                have hnf : ¬ n + m ≤ c' := by unfold knownCap at hfit; rw [if_pos hcu] at hfit; exact hfit
                obtain ⟨cap, hcap, hrun⟩ := append_grow_run (P := P) (w := w) (ty := ty) (base := base') (x := x') hts hxs hni hi hz hmrun hnf hro (horun w.drew rfl) (hnrun w.drew rfl)
                obtain ⟨v', ρ', k1, k2, k3, k4⟩ := grown_push (e := e) (i := i) (z := z) hS hor hnr hol hnl hzs hcap
                exact ⟨v', ρ', _, k1, k3, k4, by rw [hrun, k2]⟩
              · rename_i hcu
                cases base with
                | none => simp at h
                | some a =>
                  obtain ⟨a', rfl, g1, g2, g3⟩ := hb1 a rfl
                  simp only [] at h
                  split at h
                  · rename_i hoff
                    split at h
                    · rename_i r hr
                      split at h
                      · rename_i hcond
                        obtain ⟨p1, p2, p3, p4, p5, p6⟩ := hcond
                        cases h
                        obtain ⟨hr1, hr2⟩ := Mem.row?_some hr
                        obtain ⟨kS, kT⟩ := hS.kill hr1 hr2 p1
                        have hlen : (S.set a.block { r with st := .moved }).length = S.length := by simp
                        by_cases hnf : n + m ≤ c'
                        · obtain ⟨L, hL, ⟨cs, fz, hh, hle, hex, hgr, hro', hun, hcell⟩⟩ := hS.live _ _ hr1 hr2
                          have hLb : L.b = a'.block := At.inj ⟨L, hL, rfl⟩ g1
                          obtain ⟨hgr1, hgr2⟩ := hgr p3
                          obtain ⟨_, L2, hL2, hcap⟩ := (hC a rfl).2 (by omega)
                          rw [hL] at hL2
                          cases hL2
                          have hcapN := hcap hoff.1
                          rw [hgr2, p4] at hcapN
                          have hnm : (n + m) * i.size ≤ cs.size := by rw [← hgr1]; exact Nat.le_trans (Nat.mul_le_mul_right _ hnf) hcapN
                          have hnl' : news'.length = m * i.size := by rw [← hnr.1]; exact hnl
                          have hfits : n * i.size + news'.length ≤ cs.size := by rw [hnl', ← Nat.add_mul]; exact hnm
                          have hh' := hh
                          rw [hLb] at hh'
                          have haa : a' = ⟨a'.block, 0, none⟩ := by
                            have := addr_lit (g3.trans hoff.2)
                            rw [g2, hoff.1] at this; exact this
                          have hadd : a'.add (n * i.size) = ⟨a'.block, 0 + n * i.size, none⟩ := by
                            rw [haa]; unfold Addr.add; split
                            · rename_i h0; simp [h0]
                            · rfl
                          have hrunS := run_storeCells_cells (P := P) a'.block (0 + n * i.size) news' 0 w (fun j hj => by
                            rw [cell_of_row w _ _ cs r.elem fz hh']
                            simp; omega) (fun j hj => by
                            have := hun p1 (0 + n * i.size + 0 + j) (by omega)
                            simp only [World.frozen?, hh']
                            simpa using this) (hnr.oneCell p5)
                          rw [← hadd] at hrunS
                          obtain ⟨s1, s2, s3, s4⟩ := setCells_rest a'.block news' (0 + n * i.size + 0) w
                          have hrow : RowAt ρ (grownR (old ++ news) e i.size) L (w.setCells a'.block (0 + n * i.size + 0) news') := by
                            refine ⟨(putFrom cs.toList (n * i.size) news').toArray, fz, ?_, ?_, nofun, fun _ => ?_, nofun, fun _ j hj => ?_, fun j u hu => ?_⟩
                            · rw [hLb]
                              have := setCells_heap a'.block r.elem fz news' (0 + n * i.size + 0) w cs hh' (by omega)
                              rw [p2] at this
                              simpa [grownR] using this
                            · simp only [grownR, List.length_append, hol, hnl, List.size_toArray]
                              rw [putFrom_length _ _ _ (by simpa using hfits), ← Nat.add_mul]
                              simpa using hnm
                            · simp only [List.size_toArray]
                              rw [putFrom_length _ _ _ (by simpa using hfits)]
                              exact ⟨by simpa using hgr1, by rw [hgr2, p4]; rfl⟩
                            · simp only [List.size_toArray] at hj
                              rw [putFrom_length _ _ _ (by simpa using hfits)] at hj
                              exact hun p1 j (by simpa using hj)
                            · simp only [grownR] at hu
                              simp only [List.getElem?_toArray]
                              rw [putFrom_get _ _ _ (by simpa using hfits)]
                              by_cases hj : j < n * i.size
                              · rw [if_pos hj]
                                rw [List.getElem?_append_left (by omega)] at hu
                                have hru : r.cells[j]? = some u := by
                                  unfold firstOf at hold
                                  simp only [] at hold
                                  split at hold
                                  · omega
                                  · unfold Mem.cellsAt at hold
                                    rw [hr] at hold
                                    simp only [] at hold
                                    split at hold
                                    · cases hold
                                      rw [List.getElem?_take, if_pos hj, List.getElem?_drop, hoff.1, Nat.zero_add] at hu
                                      exact hu
                                    · cases hold
                                obtain ⟨q0, _⟩ | ⟨u', q1, q2⟩ := hcell j u hru
                                · exact absurd p1 q0
                                exact .inr ⟨u', by simpa using q1, q2⟩
                              · rw [if_neg hj]
                                rw [List.getElem?_append_right (by omega), hol] at hu
                                have hju : j - n * i.size < news.length := (List.getElem?_eq_some_iff.1 hu).1
                                rw [if_pos (by rw [hnl']; omega)]
                                exact .inr (hnr.get hu)
                          obtain ⟨ρ', t1, t2, t3⟩ := kS.take (w' := w.setCells a'.block (0 + n * i.size + 0) news') (grownR (old ++ news) e i.size) L hL (x0 := { r with st := .moved }) (by rw [List.getElem?_set, if_pos rfl, if_pos (row_live_lt hr1)]) rfl p1
                            (fun q y hq hy hyl => by
                              rw [List.getElem?_set] at hy
                              by_cases eq : a.block = q
                              · subst eq; rw [if_pos rfl, if_pos (row_live_lt hr1)] at hy; cases hy; cases hyl
                              · rw [if_neg eq] at hy
                                exact eq (hS.inj a.block q r y L.b ⟨L, hL, rfl⟩ hq hr1 hy hr2 hyl)) (fun k hk => setCells_other _ _ _ _ k (by rw [← hLb]; exact hk)) s1 s2 s3 s4 hrow
                          rw [hlen] at t1
                          refine ⟨.slice (some a') (n + m) c', ρ', _, .sl _ _ _ _ _ ⟨L, t1, hLb⟩ (by rw [g2, hoff.1]) (g3.trans hoff.2) ⟨fun h => by omega, fun _ => ⟨by omega, L, t1, fun _ => ?_⟩⟩, t2, kT.trans t3,
                            append_fits_run hts hxs hni hi hmrun hnf (hnrun w rfl) (fun y hy => by cases hy; exact hrunS) nofun⟩
                          exact hcap hoff.1
                        · obtain ⟨cap, hcap, hrun⟩ := append_grow_run (P := P) (w := w) (ty := ty) (base := some a') (x := x') hts hxs hni hi hz hmrun hnf hro (horun w.drew rfl) (hnrun w.drew rfl)
                          obtain ⟨v', ρ', k1, k2, k3, k4⟩ := grown_push (e := e) (i := i) (z := z) kS hor hnr hol hnl hzs hcap
                          rw [hlen] at k1
                          exact ⟨v', ρ', _, k1, k3, kT.trans k4, by rw [hrun, k2]⟩
                      · cases h
                    · cases h
                  · cases h
            · cases h
      · cases h
    · cases h
  · cases h

/-! ### the other operations that write or make memory -/
def zeroOf (P : Program) (t : TypeId) : Option Value := match P.info? t with
  | some i => match i.zero with
    | some z => if z.cells.toList.all scalar then some z else none
    | none => none
  | none => none
def intOf' : Value → Option Int
  | .int _ n => some n
  | _ => none

def acopy (P : Program) (td : TypeId) (d x : Value) (S : Mem) : Option (Value × Mem) :=
  match P.underlying td, d with
  | some (.slice e), .slice base n _ => match P.info? e, lenOf' x with
    | some i, some m => (firstOf S i.size (Nat.min m n) x).bind fun news => match base with
      | some a => if news = [] then some (.int .i64 (Nat.min m n : Nat), S) else (S.write a news).map fun S' => (.int .i64 (Nat.min m n : Nat), S')
      | none => some (.int .i64 (Nat.min m n : Nat), S)
    | _, _ => none
  | _, _ => none

def aeff (P : Program) (o : Oper) (ev : Operand → Value) (S : Mem) : Option (Value × Mem) :=
  match o.op with
  | .alloc t => (zeroOf P t).map fun z => (.pointer (some ⟨S.length, 0, none⟩), S ++ [newR z.cells.toList t])
  | .box t x => some (.pointer (some ⟨S.length, 0, none⟩), S ++ [newR (ev x).cells.toList t])
  | .buildSlice t len parts => match P.underlying t with
    | some (.slice e) => match P.info? e, zeroOf P e with
      | some i, some z => if len * i.size ≤ 16777216 ∧ len < UNK ∧ 0 < z.cells.size then
          (Instr.fill (fun i' => some (i' * i.size, i.size)) (zeroList z.cells (len * i.size)).toArray (parts.map fun (i, x) => (i, ev x)).toList).map fun cells =>
            (.slice (some ⟨S.length, 0, none⟩) len len, S ++ [newR cells.toList e]) else none
      | _, _ => none
    | _ => none
  | .store t a x => match ev a, P.info? t with
    | .pointer (some ad), some i => if (ev x).cells.size = i.size then (S.write ad (ev x).cells.toList).map fun S' => (undef, S') else none
    | _, _ => none
  | .makeSlice t l c => match P.underlying t with
    | some (.slice e) => match P.info? e, zeroOf P e, intOf' (ev l), intOf' (ev c) with
      | some i, some z, some l, some c => if 0 ≤ l ∧ l ≤ c ∧ c ≤ 140737488355328 ∧ c.toNat * i.bytes ≤ 140737488355328 ∧ 0 < z.cells.size then
          some (.slice (some ⟨S.length, 0, none⟩) l.toNat c.toNat, S ++ [newR (zeroList z.cells (c.toNat * i.size)) e]) else none
      | _, _, _, _ => none
    | _ => none
  | .convert src dst x => match ev x, P.underlying src, P.underlying dst with
    | .string s, some .string, some (.slice e) => if isBytes P e then
        some (.slice (some ⟨S.length, 0, none⟩) s.size (UNK + s.size), S ++ [grownR (s.data.toList.map fun b => .int .u8 b.toNat) e 1]) else none
    | _, _, _ => none
  | .call c => match c.callee with
    | .builtin .append => match c.argTypes[0]?, c.argTypes[1]?, c.args[0]?, c.args[1]? with
      | some ts, some xs, some s, some x => if c.args.size = 2 ∧ c.argTypes.size = 2 then aappend P ts xs (ev s) (ev x) S else none
      | _, _, _, _ => none
    | .builtin .copy => match c.argTypes[0]?, c.args[0]?, c.args[1]? with
      | some td, some d, some x => acopy P td (ev d) (ev x) S
      | _, _, _ => none
    | _ => none
  | _ => none

theorem zeroOf_run {t : TypeId} {z : Value} (h : zeroOf P t = some z) : (∀ w2 : World, (zeroValue t).run P w2 = .ok z w2) ∧ z.cells.toList.all scalar = true ∧ ∃ i, P.info? t = some i ∧ i.zero = some z := by
  unfold zeroOf at h
  split at h
  · rename_i i hi
    split at h
    · rename_i z' hz
      split at h
      · rename_i ha
        cases h
        exact ⟨fun w2 => by simp [zeroValue, typeInfo, hi, hz], ha, i, hi, hz⟩
      · cases h
    · cases h
  · cases h

theorem zeroList_scalar {z : Array Value} (hz : z.toList.all scalar = true) (h0 : 0 < z.size) (n : Nat) : (zeroList z n).all scalar = true := by
  rw [List.all_eq_true]
  intro v hv
  obtain ⟨i, _, rfl⟩ := List.mem_map.1 hv
  have hlt : i % z.size < z.size := Nat.mod_lt _ h0
  rw [getElem!_pos z (i % z.size) hlt]
  exact List.all_eq_true.1 hz _ (by simp)

/-- a new row whose block holds just these cells -/
theorem SR.pushNew (h : SR ρ S w) (cells cells' : List Value) (hc : LR ρ cells cells') (t : TypeId) :
    ∃ ρ', VR ρ' (.pointer (some ⟨S.length, 0, none⟩)) (.pointer (some ⟨w.heap.size, 0, none⟩)) ∧ (∀ n c, c < UNK → VR ρ' (.slice (some ⟨S.length, 0, none⟩) n c) (.slice (some ⟨w.heap.size, 0, none⟩) n c)) ∧
      SR ρ' (S ++ [newR cells t]) (w.alloc (.cells cells'.toArray t)) ∧ Stp ρ S w ρ' (S ++ [newR cells t]) (w.alloc (.cells cells'.toArray t)) := by
  obtain ⟨ρ', h1, h2, h3⟩ := h.push (w' := w.alloc (.cells cells'.toArray t)) (newR cells t) cells'.toArray (0, 0) rfl rfl rfl rfl 0 (by simp [newR, hc.1]) (fun _ => by simp [newR, hc.1]) nofun rfl (fun j _ h => by simp at h) (fun j u hu => by
    obtain ⟨u', a, b⟩ := hc.get hu
    exact ⟨u', by simpa using a, b⟩)
  exact ⟨ρ', .ptr _ _ ⟨_, h1, rfl⟩ rfl rfl, fun n c hc => .sl _ _ _ _ _ ⟨_, h1, rfl⟩ rfl rfl ⟨fun _ => rfl, fun h => by omega⟩, h2, h3⟩

theorem acopy_sound {td xs ty : TypeId} {d x d' x' : Value} (hS : SR ρ S w) (h : acopy P td d x S = some (v, S')) (hd : VR ρ d d') (hx : VR ρ x x') :
    ∃ v' ρ' w', VR ρ' v v' ∧ SR ρ' S' w' ∧ Stp ρ S w ρ' S' w' ∧ ∀ (ts : Array TypeId) (as : Array Value), ts[0]? = some td → as[0]? = some d' → as[1]? = some x' → (Builtin.copy_ ts ty as).run P w = .ok v' w' := by
  unfold acopy at h
  split at h
  · rename_i e base n cp htd
    split at h
    · rename_i i m hi hm
      rw [Option.bind_eq_some_iff] at h
      obtain ⟨news, hnews, h⟩ := h
      obtain ⟨base', c', rfl, hb1, hb2, _⟩ := hd.slInv
      obtain ⟨news', hnr, hnrun⟩ := firstOf_sound (P := P) hS hnews hx
      have hmrun := lenOf_sound (P := P) hm hx w
      have run : ∀ w', (∀ a, base' = some a → (storeCells a news').run P w = .ok () w') → (base' = none → w' = w) → ∀ (ts : Array TypeId) (as : Array Value), ts[0]? = some td → as[0]? = some (.slice base' n c') → as[1]? = some x' →
          (Builtin.copy_ ts ty as).run P w = .ok (.int .i64 (Nat.min m n : Nat)) w' := by
        intro w' hst hno ts as e1 e2 e3
        unfold Builtin.copy_
        simp only [e1, e2, e3, Sem.run_bind, run_underlying' htd, Result.andThen_ok, hmrun, sizeOf, typeInfo, run_program, hi, Sem.run_pure, hnrun w rfl]
        cases base' with
        | none => simp [hno rfl, goInt]
        | some a => simp [hst a rfl, goInt]
      cases base with
      | some a =>
        obtain ⟨a', rfl, g1, g2, g3⟩ := hb1 a rfl
        simp only [] at h
        split at h
        · rename_i hnil
          cases h
          have hn' : news' = [] := List.eq_nil_of_length_eq_zero (by rw [← hnr.1, hnil]; rfl)
          exact ⟨_, ρ, w, .int _ _, hS, Stp.refl _ _ _, run w (fun y hy => by subst hn'; simp [storeCells]) nofun⟩
        · rw [Option.map_eq_some_iff] at h
          obtain ⟨S1, hS1, h⟩ := h
          cases h
          obtain ⟨w1, hrun, hs1, hs2⟩ := write_sound (P := P) hS hS1 hnr g1 g2 g3
          exact ⟨_, ρ, w1, .int _ _, hs1, hs2, run w1 (fun y hy => by cases hy; exact hrun) nofun⟩
      | none =>
        cases h
        rcases hb2 rfl with ⟨rfl, rfl⟩ | ⟨rfl, _⟩
        · exact ⟨_, ρ, w, .int _ _, hS, Stp.refl _ _ _, run w nofun (fun _ => rfl)⟩
        · have hn0 : news = [] := firstOf_zero (by simpa using hnews)
          have hn' : news' = [] := List.eq_nil_of_length_eq_zero (by rw [← hnr.1, hn0]; rfl)
          exact ⟨_, ρ, w, .int _ _, hS, Stp.refl _ _ _, run w (fun y hy => by subst hn'; simp [storeCells]) (fun _ => rfl)⟩
    · cases h
  · cases h

theorem wrap64_id {n : Int} (h0 : 0 ≤ n) (h1 : n ≤ 140737488355328) : IntKind.i64.wrap n = n := by
  have e1 : IntKind.i64.bits = 64 := rfl
  have e2 : IntKind.i64.signed = true := rfl
  unfold IntKind.wrap
  rw [e1, e2]
  simp only [Bool.true_and, decide_eq_true_eq]
  split <;> omega

theorem makeSlice_run {t e : TypeId} {i : TypeInfo} {z : Value} {l c : Int} {kl kc : IntKind} (ht : P.underlying t = some (.slice e)) (hi : P.info? e = some i) (hz : ∀ w2 : World, (zeroValue e).run P w2 = .ok z w2)
    (h0 : 0 ≤ l) (h1 : l ≤ c) (h2 : c ≤ 140737488355328) (h3 : c.toNat * i.bytes ≤ 140737488355328) :
    ∃ z', (c.toNat * i.size ≠ 0 → z' = z.cells) ∧ (Instr.makeSlice t (.int kl l) (.int kc c)).run P w = .ok (.slice (some ⟨w.heap.size, 0, none⟩) l.toNat c.toNat) (w.alloc (.cells (zeroList z' (c.toNat * i.size)).toArray e)) := by
  have hb : ∀ n : Int, 0 ≤ n → n ≤ c → (i.bytes : Int) * n ≤ 140737488355328 := fun n hn hnc => by
    have h4 : n.toNat ≤ c.toNat := by omega
    have h5 := Nat.mul_le_mul_right i.bytes h4
    have h6 : ((n.toNat * i.bytes : Nat) : Int) ≤ 140737488355328 := by omega
    rw [Int.natCast_mul, Int.toNat_of_nonneg hn, Int.mul_comm] at h6
    exact h6
  have hbc := hb c (by omega) (Int.le_refl _)
  have hne : ∀ q : Sem Value, (if ((c < 0 || decide ((i.bytes : Int) * c > 2 ^ 48)) || decide (l < 0) || decide (l > c)) = true then q else pure default) = pure default := fun q => by
    rw [if_neg]
    simp
    omega
  have hcond : ((decide (c < 0) || decide ((i.bytes : Int) * c > 2 ^ 48)) || decide (l < 0) || decide (l > c)) = false := by simp; omega
  by_cases hn : c.toNat * i.size = 0
  · refine ⟨#[], fun h => absurd hn h, ?_⟩
    unfold Instr.makeSlice
    simp only [Sem.run_bind, run_underlying' ht, Result.andThen_ok, asInt, asIntOf, Sem.run_pure, typeInfo, run_program, hi, wrap64_id h0 (by omega : l ≤ 140737488355328), wrap64_id (by omega : 0 ≤ c) h2]
    rw [Sem.run_ite, if_neg (by simpa using hcond)]
    simp only [Sem.run_bind, run_askRoom, Result.andThen_ok, sizeOf, typeInfo, run_program, hi, Sem.run_pure, hn, if_true, newRow, run_newObj, World.alloc_eq]
    congr 2
    simp [zeroList]
  · refine ⟨z.cells, fun _ => rfl, ?_⟩
    unfold Instr.makeSlice
    simp only [Sem.run_bind, run_underlying' ht, Result.andThen_ok, asInt, asIntOf, Sem.run_pure, typeInfo, run_program, hi, wrap64_id h0 (by omega : l ≤ 140737488355328), wrap64_id (by omega : 0 ≤ c) h2]
    rw [Sem.run_ite, if_neg (by simpa using hcond)]
    simp only [Sem.run_bind, run_askRoom, Result.andThen_ok, sizeOf, typeInfo, run_program, hi, Sem.run_pure, hn, if_false, hz, newRow, run_newObj, World.alloc_eq]
    congr 3
    apply Array.ext'
    simp [zeroList]

set_option maxHeartbeats 1000000 in
theorem aeff_sound {o : Oper} {ev ev' : Operand → Value} (hS : SR ρ S w) (h : aeff P o ev S = some (v, S')) (hv : ∀ x ∈ o.op.operands, VR ρ (ev x) (ev' x)) :
    ∃ v' ρ' w', VR ρ' v v' ∧ SR ρ' S' w' ∧ Stp ρ S w ρ' S' w' ∧ ((execOp ev' o).run P w = .ok (.value v') w' ∨ ((execOp ev' o).run P w = .ok .skip w' ∧ v' = undef)) := by
  unfold aeff at h
  split at h
  · rename_i t ho
    rw [Option.map_eq_some_iff] at h
    obtain ⟨z, hz, h⟩ := h
    cases h
    obtain ⟨hzr, hza, _⟩ := zeroOf_run hz
    obtain ⟨ρ', h1, _, h2, h3⟩ := hS.pushNew z.cells.toList z.cells.toList (scalars_LR ρ hza) t
    refine ⟨_, ρ', _, h1, h2, h3, .inl ?_⟩
    simp [execOp, ho, Instr.alloc, hzr, newVar, newRow]
  · rename_i t x ho
    cases h
    have m0 := (hv x (by simp [ho, Op.operands])).cellsLR
    obtain ⟨ρ', h1, _, h2, h3⟩ := hS.pushNew _ _ m0 t
    refine ⟨_, ρ', _, h1, h2, h3, .inl ?_⟩
    simp [execOp, ho, Instr.box, newVar, newRow]
  · rename_i t len parts ho
    split at h
    · rename_i e ht
      split at h
      · rename_i i z hi hz
        split at h
        · rename_i hc
          rw [Option.map_eq_some_iff] at h
          obtain ⟨cells, hcells, h⟩ := h
          cases h
          obtain ⟨hzr, hza, _⟩ := zeroOf_run hz
          have hp : ∀ (i : Nat) (p p' : Nat × Value), (parts.map fun (i, x) => (i, ev x)).toList[i]? = some p → (parts.map fun (i, x) => (i, ev' x)).toList[i]? = some p' → p.1 = p'.1 ∧ VR ρ p.2 p'.2 := by
            intro i p p' a b
            rw [Array.getElem?_toList, Array.getElem?_map, Option.map_eq_some_iff] at a b
            obtain ⟨q, hq, rfl⟩ := a
            obtain ⟨q', hq', rfl⟩ := b
            rw [hq] at hq'
            cases hq'
            refine ⟨rfl, hv q.2 ?_⟩
            rw [ho]
            simp only [Op.operands, List.mem_toArray, List.mem_map, Array.mem_toList_iff]
            exact ⟨q, Array.mem_of_getElem? hq, rfl⟩
          obtain ⟨cells', hf', hlr⟩ := fill_sound (ρ := ρ) _ _ (parts.map fun (i, x) => (i, ev' x)).toList _ (zeroList z.cells (len * i.size)).toArray cells (by simp) hp (by simpa using scalars_LR ρ (zeroList_scalar hza hc.2.2 _)) hcells
          obtain ⟨ρ', h1, h1s, h2, h3⟩ := hS.pushNew cells.toList cells'.toList hlr e
          refine ⟨_, ρ', _, h1s len len hc.2.1, h2, h3, .inl ?_⟩
          have hrun : (Instr.buildSlice t len (parts.map fun (i, x) => (i, ev' x))).run P w = .ok (.slice (some ⟨w.heap.size, 0, none⟩) len len) (w.alloc (.cells cells'.toList.toArray e)) := by
            unfold Instr.buildSlice
            simp only [Sem.run_bind, run_underlying' ht, Result.andThen_ok, sizeOf, typeInfo, run_program, hi, Sem.run_pure]
            rw [Sem.run_ite, if_neg (by omega)]
            have hz0 : ∀ (zz : Array Value), (len * i.size ≠ 0 → zz = z.cells) → (Array.range (len * i.size)).map (fun x => zz[x % zz.size]!) = (zeroList z.cells (len * i.size)).toArray := fun zz hzz => by
              by_cases h0 : len * i.size = 0
              · rw [h0]; simp [zeroList]
              · rw [hzz h0]; apply Array.ext'; simp [zeroList]
            have hf2 : Instr.fill (fun i' => some (i' * i.size, i.size)) (zeroList z.cells (len * i.size)).toArray (Array.map (fun x => (x.fst, ev' x.snd)) parts).toList = some cells' := hf'
            split
            · rename_i h0
              rw [Sem.run_bind]
              simp only [Sem.run_pure, Result.andThen_ok]
              rw [hz0 #[] (fun h => absurd h0 h), hf2]
              simp [newRow]
            · rw [Sem.run_bind]
              simp only [Sem.run_bind, hzr, Sem.run_pure, Result.andThen_ok]
              rw [hz0 z.cells (fun _ => rfl), hf2]
              simp [newRow]
          simp [execOp, ho, hrun]
        · cases h
      · cases h
    · cases h
  · rename_i t a x ho
    split at h
    · rename_i ad i ha hi
      split at h
      · rename_i hsz
        rw [Option.map_eq_some_iff] at h
        obtain ⟨S1, hS1, h⟩ := h
        cases h
        have m0 := hv a (by simp [ho, Op.operands])
        have m1 := (hv x (by simp [ho, Op.operands])).cellsLR
        rw [ha] at m0
        obtain ⟨a', hae, g1, g2, g3⟩ := m0.ptrInv
        obtain ⟨w1, hrun, hs1, hs2⟩ := write_sound (P := P) hS hS1 m1 g1 g2 g3
        refine ⟨undef, ρ, w1, flat_VR ρ undef_flat, hs1, hs2, .inr ⟨?_, rfl⟩⟩
        have hsz' : (ev' x).cells.size = i.size := by have := m1.1; simp only [Array.length_toList] at this; omega
        simp [execOp, ho, hae, Instr.storeAt, Instr.sureAddr, storeVar, sizeOf, typeInfo, hi, hsz', hrun]
      · cases h
    · cases h
  · rename_i t l c ho
    split at h
    · rename_i e ht
      split at h
      · rename_i i z l' c' hi hz hl hc
        split at h
        · rename_i hcond
          cases h
          have e1 := (hv l (by simp [ho, Op.operands])).scalar_eq (by unfold intOf' at hl; split at hl <;> first | rename_i hq; rw [hq]; rfl | cases hl)
          have e2 := (hv c (by simp [ho, Op.operands])).scalar_eq (by unfold intOf' at hc; split at hc <;> first | rename_i hq; rw [hq]; rfl | cases hc)
          obtain ⟨kl, hl'⟩ : ∃ k, ev l = .int k l' := by unfold intOf' at hl; split at hl <;> first | (rename_i hq; cases hl; exact ⟨_, hq⟩) | cases hl
          obtain ⟨kc, hc'⟩ : ∃ k, ev c = .int k c' := by unfold intOf' at hc; split at hc <;> first | (rename_i hq; cases hc; exact ⟨_, hq⟩) | cases hc
          obtain ⟨hzr, hza, _⟩ := zeroOf_run hz
          obtain ⟨z', hz', hrun⟩ := makeSlice_run (P := P) (w := w) (kl := kl) (kc := kc) ht hi hzr hcond.1 hcond.2.1 hcond.2.2.1 hcond.2.2.2.1
          have hzl : zeroList z' (c'.toNat * i.size) = zeroList z.cells (c'.toNat * i.size) := by
            by_cases h0 : c'.toNat * i.size = 0
            · rw [h0]; rfl
            · rw [hz' h0]
          rw [hzl] at hrun
          obtain ⟨ρ', h1, h1s, h2, h3⟩ := hS.pushNew _ _ (scalars_LR ρ (zeroList_scalar hza hcond.2.2.2.2 (c'.toNat * i.size))) e
          refine ⟨_, ρ', _, h1s l'.toNat c'.toNat (by unfold UNK; omega), h2, h3, .inl ?_⟩
          simp [execOp, ho, e1, e2, hl', hc', hrun]
        · cases h
      · cases h
    · cases h
  · rename_i src dst x ho
    split at h
    · rename_i s e hx hsr hds
      split at h
      · rename_i hby
        cases h
        have e1 := (hv x (by simp [ho, Op.operands])).scalar_eq (by rw [hx]; rfl)
        have hby' : ∀ w, (underlying e).run P w = .ok (.int .u8) w := fun w => by
          unfold isBytes at hby
          split at hby
          · rename_i hq; exact run_underlying' hq w
          · cases hby
        obtain ⟨cap, hce⟩ : ∃ cap, (Question.appendCap s.size 0 e).cut (w.tape w.drawn (.appendCap s.size 0 e)) = cap := ⟨_, rfl⟩
        have hcap : s.size ≤ cap := by rw [← hce]; simp [Question.cut]
        obtain ⟨C, hC⟩ : ∃ C : Array Value, (s.data.map fun b : UInt8 => Value.int .u8 b.toNat) ++ Array.replicate (cap - s.size) (Value.int .u8 0) = C := ⟨_, rfl⟩
        have hds' : s.data.size = s.size := rfl
        have hCs : C.size = cap := by rw [← hC]; simp [hds']; omega
        have hrun : (convert src dst (.string s)).run P w = .ok (.slice (some ⟨w.heap.size, 0, none⟩) s.size cap) ((w.drew.alloc (.cells C e)).freeze ⟨w.heap.size, C.size, none⟩ 1) := by
          unfold convert
          simp only [Sem.run_bind, run_underlying' hsr, run_underlying' hds, Result.andThen_ok, hby']
          unfold Conv.stringToBytes
          simp only [Sem.run_bind, run_choose, Question.forced, Bool.false_eq_true, if_false, hce, Result.andThen_ok, newRow, run_newObj, Sem.run_pure, markStringish, run_shape, World.drew_eq, World.alloc_eq, hC]
          have hsh : (w.drew.alloc (.cells C e)).shape? w.heap.size = some (e, C.size) := by
            unfold World.shape?
            rw [show (w.drew.alloc (.cells C e)).heap[w.heap.size]? = some (.cells C e) from heap_alloc_new w.drew _]
          rw [show w.drew.heap.size = w.heap.size from rfl, hsh]
          simp
        have hheap : ((w.drew.alloc (.cells C e)).freeze ⟨w.heap.size, C.size, none⟩ 1).heap = w.heap.push (.cells C e (C.size, C.size + 1)) := by
          have h1 : (w.drew.alloc (.cells C e)).heap = w.heap.push (.cells C e) := rfl
          unfold World.freeze
          rw [if_neg (by omega)]
          simp only [h1]
          apply Array.ext_getElem?
          intro j
          rw [Array.getElem?_modify]
          by_cases hj : w.heap.size = j
          · subst hj; simp
          · rw [if_neg hj, Array.getElem?_push, Array.getElem?_push]
            split
            · rename_i h9; exact absurd h9.symm hj
            · rfl
        have hrest : ((w.drew.alloc (.cells C e)).freeze ⟨w.heap.size, C.size, none⟩ 1).tape = w.tape ∧ ((w.drew.alloc (.cells C e)).freeze ⟨w.heap.size, C.size, none⟩ 1).os = w.os ∧ ((w.drew.alloc (.cells C e)).freeze ⟨w.heap.size, C.size, none⟩ 1).output = w.output := by
          unfold World.freeze; rw [if_neg (by omega)]; exact ⟨rfl, rfl, rfl⟩
        obtain ⟨ρ', h1, h2, h3⟩ := hS.push (w' := (w.drew.alloc (.cells C e)).freeze ⟨w.heap.size, C.size, none⟩ 1) (grownR (s.data.toList.map fun b : UInt8 => Value.int .u8 b.toNat) e 1) C (C.size, C.size + 1) hheap hrest.1 hrest.2.1 hrest.2.2 1
          (by simp [grownR, hCs, hds']; exact hcap) nofun (fun _ => rfl) rfl (fun j hj => by simp; omega) (fun j u hu => by
            refine ⟨u, ?_, ?_⟩
            · simp only [grownR] at hu
              have hj : j < s.data.size := by
                have := (List.getElem?_eq_some_iff.1 hu).1
                simpa using this
              rw [← hC, Array.getElem?_append_left (by simpa using hj)]
              simpa using hu
            · simp only [grownR, List.getElem?_map, Option.map_eq_some_iff] at hu
              obtain ⟨q, _, rfl⟩ := hu
              exact .int _ _)
        refine ⟨.slice (some ⟨w.heap.size, 0, none⟩) s.size cap, ρ', _, .sl _ _ _ _ _ ⟨_, h1, rfl⟩ rfl rfl ⟨fun h => by omega, fun _ => ⟨by omega, _, h1, fun _ => ?_⟩⟩, h2, h3, .inl (by simp [execOp, ho, e1, hx, hrun])⟩
        show cap * 1 ≤ C.size
        omega
      · cases h
    · cases h
  · rename_i c ho
    split at h
    · rename_i hcal
      split at h
      · rename_i ts xs s x h1 h2 h3 h4
        split at h
        · rename_i hsz
          have m0 := hv s (by simp [ho, Op.operands, Call.operands, hcal, Array.mem_of_getElem? h3])
          have m1 := hv x (by simp [ho, Op.operands, Call.operands, hcal, Array.mem_of_getElem? h4])
          obtain ⟨v', ρ', w', k1, k2, k3, k4⟩ := aappend_sound (ty := o.type) hS h m0 m1
          refine ⟨v', ρ', w', k1, k2, k3, .inl ?_⟩
          have ea : c.args = #[s, x] := by
            apply Array.ext_getElem?
            intro i
            match i with
            | 0 => simpa using h3
            | 1 => simpa using h4
            | i + 2 => rw [Array.getElem?_eq_none (by omega)]; simp
          have et : c.argTypes = #[ts, xs] := by
            apply Array.ext_getElem?
            intro i
            match i with
            | 0 => simpa using h1
            | 1 => simpa using h2
            | i + 2 => rw [Array.getElem?_eq_none (by omega)]; simp
          simp [execOp, ho, resolve, hcal, invoke, builtin, ea, et, k4]
        · cases h
      · cases h
    · rename_i hcal
      split at h
      · rename_i td d x h1 h2 h3
        have m0 := hv d (by simp [ho, Op.operands, Call.operands, hcal, Array.mem_of_getElem? h2])
        have m1 := hv x (by simp [ho, Op.operands, Call.operands, hcal, Array.mem_of_getElem? h3])
        obtain ⟨v', ρ', w', k1, k2, k3, k4⟩ := acopy_sound (xs := 0) (ty := o.type) hS h m0 m1
        refine ⟨v', ρ', w', k1, k2, k3, .inl ?_⟩
        simp [execOp, ho, resolve, hcal, invoke, builtin, k4 c.argTypes (c.args.map ev') h1 (by simp [h2]) (by simp [h3])]
      · cases h
    · cases h
  · cases h
end
end Go.Proofs.Yteadbbimikcmgaa
