/- The abstract machine's operations on memory, and that the real ones do the same. Conditions: none. -/
import Derived.Test.YteadbbimikcmgaaAbsPure
import Derived.Laws.IdiomCopy
set_option linter.unusedSimpArgs false
set_option linter.unusedVariables false
namespace Go.Proofs.Yteadbbimikcmgaa
open Go

/-! ### reading -/
section
variable {P : Program} {ρ : Nat → Option Loc} {S S' : Mem} {w : World}

theorem cellsAt_real {a a' : Addr} {n : Nat} {l : List Value} (h : SR ρ S w) (hl : S.cellsAt a n = some l) (hb : At ρ a.block a'.block) (ho : a'.off = a.off) (hs : a'.spot = a.spot) :
    ∃ l', LR ρ l l' ∧ l'.length = n ∧ a'.spot = none ∧ ∀ (j : Nat) (v : Value), l'[j]? = some v → w.cell? (a'.add j) = some v := by
  unfold Mem.cellsAt at hl
  split at hl
  · rename_i x hx
    split at hl
    · rename_i hc
      cases hl
      obtain ⟨hx1, hx2⟩ := Mem.row?_some hx
      obtain ⟨L, hb', ⟨c, fz, hh, hle, _, _, _, _, hcell⟩⟩ := h.live _ _ hx1 hx2
      have hLb : L.b = a'.block := At.inj ⟨L, hb', rfl⟩ hb
      rw [hLb] at hh
      have hsp : a'.spot = none := hs.trans hc.1
      refine ⟨(c.toList.drop a.off).take n, ⟨?_, ?_⟩, ?_, hsp, ?_⟩
      · simp only [List.length_take, List.length_drop, Array.length_toList]; omega
      · intro i v v' e1 e2
        rw [List.getElem?_take] at e1 e2
        split at e1
        · rename_i hi
          rw [if_pos hi] at e2
          rw [List.getElem?_drop] at e1 e2
          obtain ⟨hk1, hk2⟩ | ⟨u, hu, hr⟩ := hcell _ _ e1
          · exfalso
            rcases hc.2.2 with hk3 | hk3
            · exact hk1 hk3
            · have := List.all_eq_true.1 hk3 v (List.mem_of_getElem? (i := i) (by rw [List.getElem?_take, if_pos hi, List.getElem?_drop]; exact e1))
              rw [hk2] at this; cases this
          have : u = v' := by
            have e3 : c[a.off + i]? = some v' := by simpa using e2
            rw [hu] at e3; exact Option.some.inj e3
          subst this; exact hr
        · cases e1
      · simp only [List.length_take, List.length_drop, Array.length_toList]; omega
      · intro j v e
        rw [List.getElem?_take] at e
        split at e
        · rw [List.getElem?_drop] at e
          have hadd : a'.add j = ⟨a'.block, a'.off + j, none⟩ := by
            unfold Addr.add
            split
            · rename_i h0
              subst h0
              cases a'
              simp at hsp ⊢
              exact hsp
            · rfl
          rw [hadd, cell_of_row w a'.block (a'.off + j) c x.elem fz hh, ho]
          simpa using e
        · cases e
    · cases hl
  · cases hl

def bytesOf : List Value → Option (List UInt8)
  | [] => some []
  | .int .u8 n :: r => (bytesOf r).map (UInt8.ofNat n.toNat :: ·)
  | _ :: _ => none
def isBytes (P : Program) (t : TypeId) : Bool := match P.underlying t with
  | some (.int .u8) => true
  | _ => false

def aloadAt (P : Program) (t : TypeId) (x : Value) (S : Mem) : Option Value := match x, P.underlying t, P.info? t with
  | .pointer (some a), some d, some i => if isAggD d then (S.cellsAt a i.size).map fun l => .agg l.toArray else (S.cellsAt a 1).bind (·[0]?)
  | _, _, _ => none
def aload (P : Program) (o : Oper) (ev : Operand → Value) (S : Mem) : Option Value :=
  match o.op with
  | .load t x => aloadAt P t (ev x) S
  | .convert src dst x => match ev x, P.underlying src, P.underlying dst with
    | .slice (some a) n _, some (.slice e), some .string => if isBytes P e then ((S.cellsAt a n).bind bytesOf).map fun l => .string ⟨l.toArray⟩ else none
    | _, _, _ => none
  | _ => none

theorem bytesOf_run {f : Value → ByteArray → Sem (ForInStep ByteArray)} (hf : ∀ n r, f (.int .u8 n) r = pure (ForInStep.yield (r.push (UInt8.ofNat n.toNat)))) (l : List Value) :
    ∀ (bs : List UInt8) (s : ByteArray) (w : World), bytesOf l = some bs → (forIn l s f).run P w = .ok ⟨s.data ++ bs.toArray⟩ w := by
  induction l with
  | nil => intro bs s w h; simp [bytesOf] at h; subst h; simp
  | cons v l ih =>
    intro bs s w h
    unfold bytesOf at h
    split at h
    · rename_i he; cases he
    · rename_i n r he
      cases he
      rw [Option.map_eq_some_iff] at h
      obtain ⟨b2, hb2, rfl⟩ := h
      rw [List.forIn_cons, Sem.run_bind]
      rw [hf]
      simp only [Sem.run_pure, Result.andThen_ok]
      rw [ih b2 _ w hb2]
      congr 1
      simp [ByteArray.push]
    · cases h
theorem bytesOf_scalar : ∀ (l : List Value) (bs : List UInt8), bytesOf l = some bs → l.all scalar = true
  | [], _, _ => rfl
  | v :: l, bs, h => by
    unfold bytesOf at h
    split at h
    · rename_i he; cases he
    · rename_i n r he
      cases he
      rw [Option.map_eq_some_iff] at h
      obtain ⟨b2, hb2, rfl⟩ := h
      simp only [List.all_cons, Bool.and_eq_true]
      exact ⟨rfl, bytesOf_scalar l b2 hb2⟩
    · cases h

theorem aloadAt_sound {t : TypeId} {x x' : Value} {v : Value} (hS : SR ρ S w) (h : aloadAt P t x S = some v) (m0 : VR ρ x x') :
    ∃ v' a', x' = .pointer (some a') ∧ VR ρ v v' ∧ (loadVar t a').run P w = .ok v' w := by
  unfold aloadAt at h
  split at h
  · rename_i a d i hd hi
    obtain ⟨a', rfl, h1, h2, h3⟩ := m0.ptrInv
    have hso : ∀ w, (sizeOf t).run P w = .ok i.size w := fun w => by
      have := run_sizeOf' (P := P) (t := t) (by rw [hi]; rfl) w
      simpa [Program.cellsOf, hi] using this
    split at h
    · rename_i hag
      rw [Option.map_eq_some_iff] at h
      obtain ⟨l, hl, rfl⟩ := h
      obtain ⟨l', hr, hlen, _, hcell⟩ := cellsAt_real hS hl h1 h2 h3
      have hrun := run_loadCells_list (P := P) w a' l' hcell
      rw [hlen] at hrun
      refine ⟨.agg l'.toArray, a', rfl, LR.agg (by simpa using hr), ?_⟩
      simp [loadVar, run_isAgg' hd, hag, hso, hrun]
    · rename_i hag
      rw [Option.bind_eq_some_iff] at h
      obtain ⟨l, hl, h⟩ := h
      obtain ⟨l', hr, hlen, hsp, hcell⟩ := cellsAt_real hS hl h1 h2 h3
      obtain ⟨v', hv', hvr⟩ := hr.get h
      have hc := hcell 0 v' hv'
      rw [show a'.add 0 = a' from rfl] at hc
      have hag' : isAggD d = false := by simpa using hag
      refine ⟨v', a', rfl, hvr, ?_⟩
      simp [loadVar, run_isAgg' hd, hag', hc]
  · cases h
theorem aload_sound {o : Oper} {ev ev' : Operand → Value} {v : Value} (hS : SR ρ S w) (h : aload P o ev S = some v) (hv : ∀ x ∈ o.op.operands, VR ρ (ev x) (ev' x)) :
    ∃ v', VR ρ v v' ∧ (execOp ev' o).run P w = .ok (.value v') w := by
  unfold aload at h
  split at h
  · rename_i t x ho
    obtain ⟨v', a', ha, hr, hrun⟩ := aloadAt_sound (P := P) hS h (hv x (by simp [ho, Op.operands]))
    exact ⟨v', hr, by simp [execOp, ho, ha, Instr.loadAt, Instr.sureAddr, hrun]⟩
  · rename_i src dst x ho
    split at h
    · rename_i a n c e hx hsr hds
      split at h
      · rename_i hby
        rw [Option.map_eq_some_iff] at h
        obtain ⟨bs, hbs, rfl⟩ := h
        rw [Option.bind_eq_some_iff] at hbs
        obtain ⟨l, hl, hbs⟩ := hbs
        have m0 := hv x (by simp [ho, Op.operands])
        rw [hx] at m0
        obtain ⟨a0, c', ha, ha1, _⟩ := m0.slInv
        obtain ⟨a', rfl, h1, h2, h3⟩ := ha1 a rfl
        obtain ⟨l', hr, hlen, hsp, hcell⟩ := cellsAt_real hS hl h1 h2 h3
        have hll := hr.scalar_eq (bytesOf_scalar l bs hbs)
        subst hll
        have hrun := run_loadCells_list (P := P) w a' l' hcell
        rw [hlen] at hrun
        refine ⟨_, .string _, ?_⟩
        have hby' : ∀ w, (underlying e).run P w = .ok (.int .u8) w := fun w => by
          unfold isBytes at hby
          split at hby
          · rename_i hq; exact run_underlying' hq w
          · cases hby
        have hcv : (convert src dst (.slice (some a') n c')).run P w = (Conv.bytesToString (.slice (some a') n c')).run P w := by
          unfold convert
          simp only [Sem.run_bind, run_underlying' hsr, run_underlying' hds, Result.andThen_ok, hby']
        simp only [execOp, ho, ha, Sem.run_bind, hcv]
        unfold Conv.bytesToString
        simp only [Sem.run_bind, hrun, Result.andThen_ok]
        rw [← Array.forIn_toList]
        rw [bytesOf_run (fun _ _ => rfl) l' bs ByteArray.empty w hbs]
        simp only [Sem.run_pure, Result.andThen_ok]
        congr 3
        show ByteArray.mk (#[] ++ bs.toArray) = _
        simp
      · cases h
    · cases h
  · cases h
end

/-! ### writing, making -/
def zeroList (z : Array Value) (n : Nat) : List Value := (List.range n).map fun i => z[i % z.size]!
def roomy (need bytes : Nat) : Prop := need * bytes ≤ 70368744177664 ∧ bytes ≤ 1073741824 ∧ need ≤ 70368744177664 ∧ 0 < bytes
instance (n b : Nat) : Decidable (roomy n b) := by unfold roomy; infer_instance

def firstOf (S : Mem) (size n : Nat) : Value → Option (List Value)
  | .slice (some a) _ _ => if n * size = 0 then some [] else S.cellsAt a (n * size)
  | .slice none _ c => if c < UNK ∨ n * size = 0 then some [] else none
  | .string s => some ((s.data.toList.take n).map fun b => .int .u8 b.toNat)
  | _ => none
theorem firstOf_zero {S : Mem} {size : Nat} {x : Value} {l : List Value} (h : firstOf S size 0 x = some l) : l = [] := by
  unfold firstOf at h
  split at h
  · rw [if_pos (Nat.zero_mul _)] at h; cases h; rfl
  · rw [if_pos (.inr (Nat.zero_mul _))] at h; cases h; rfl
  · cases h; simp
  · cases h
theorem firstOf_nil (S : Mem) (size n : Nat) : firstOf S size n (.slice none 0 0) = some [] := by
  show (if 0 < UNK ∨ n * size = 0 then some [] else none) = some []
  rw [if_pos (Or.inl (by decide))]
def lenOf' : Value → Option Nat
  | .slice _ n _ => some n
  | .string s => some s.size
  | _ => none

def aappend (P : Program) (ts xs : TypeId) (s x : Value) (S : Mem) : Option (Value × Mem) :=
  match P.underlying ts, P.underlying xs, s with
  | some (.slice e), some dx, .slice base n c => match P.info? e, (match dx with | .slice _ | .string => some () | _ => none) with
    | some i, some () => match i.zero, lenOf' x with
      | some z, some m => (firstOf S i.size m x).bind fun news => (firstOf S i.size n s).bind fun old =>
        if z.cells.size ≠ i.size ∨ ¬ z.cells.toList.all scalar then none else
        if n + m ≤ knownCap c then
          match base with
          | some a => if news = [] then some (.slice base (n + m) c, S) else (S.write (a.add (n * i.size)) news).map fun S' => (.slice base (n + m) c, S')
          | none => if c < UNK ∧ news = [] then some (.slice none (n + m) c, S) else none
        else if roomy (n + m) i.bytes ∧ news.length = m * i.size ∧ old.length = n * i.size then
          if c < UNK then some (.slice (some ⟨S.length, 0, none⟩) (n + m) (UNK + (n + m)), S ++ [grownR (old ++ news) e i.size])
          else match base with
            | some a => if a.off = 0 ∧ a.spot = none then match S.row? a.block with
                | some r => if r.ro = none ∧ r.elem = e ∧ r.exact = false ∧ r.sz = i.size ∧ news.all oneCell = true ∧ n * i.size ≤ r.cells.length then
                    some (.slice (some ⟨S.length, 0, none⟩) (n + m) (UNK + (n + m)), S.set a.block { r with st := .moved } ++ [grownR (old ++ news) e i.size]) else none
                | none => none
              else none
            | none => none
        else none
      | _, _ => none
    | _, _ => none
  | _, _, _ => none

end Go.Proofs.Yteadbbimikcmgaa
