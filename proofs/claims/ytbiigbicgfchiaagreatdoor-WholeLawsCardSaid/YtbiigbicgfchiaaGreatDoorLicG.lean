/- What several proofs share, part 7: a model of memory, contracts of functions. Conditions: none. -/
import Derived.Test.YtbiigbicgfchiaaGreatDoorLicD
import Derived.Test.YtbiigbicgfchiaaGreatDoorLicE
import Derived.Test.YtbiigbicgfchiaaGreatDoorLicF
import Derived.ChangeSame
import Derived.Test.YtbiigbicgfchiaaGreatDoorRows
import Derived.ProofKit
import Derived.LaidMore
import Derived.OpenShut
import Derived.Stop.Joined
import Derived.MakeChecks

/- Whole numbers that came in, on the abstract memory of the world in which a call begins. Conditions: none. -/
set_option linter.unusedSimpArgs false
set_option linter.unusedVariables false
set_option maxRecDepth 100000
namespace Go.Proofs.YtbiigbicgfchiaaGreatDoor
open Go Go.ChangeShapes Go.WideShapes
theorem known_lt {l : WL} {c : Nat} (h : l.length ≤ knownCap c) (hu : c < UNK) : l.length < UNK := by
 unfold knownCap at h
 rw [if_pos hu] at h
 omega
def WholeAt (W : World) (N0 : Nat) (v : Value) (b : Bool) (l : WL) : Prop := ∃ u, v = .agg #[.bool b, u] ∧ WordsAt W N0 u l
theorem whole_open {H : Type} {enc : TypeId × Value → H} {W : World} {fuel : Nat} {cs : List Value} {x : DataW H × List MemPlace} (h : DataW.trod enc Tryz.prog W 0 (fun _ => true) true fuel 24 cs = some x) : ∃ b u N l, cs = [.bool b, u] ∧ WordsAt W N u l := by
 obtain ⟨y0, y1, n, _, hl, h0, h1⟩ := trod_struct2 Tryz.underlying24 h
 obtain ⟨b, e1, _⟩ := DataW.trod_bool Tryz.underlying4 h0
 obtain ⟨u2, N2, l2, e2, k2⟩ := words_open h1
 have c1 : Tryz.prog.cellsOf 4 = 1 := by kernel_rfl
 have c2 : Tryz.prog.cellsOf 22 = 1 := by kernel_rfl
 have c3 : Tryz.prog.cellsOf 24 = 2 := by kernel_rfl
 rw [c3] at hl
 match cs, hl with
 | [x, y], _ =>
  have e3 : x = .bool b := by simpa [c1] using e1
  have e4 : y = u2 := by simpa [c1, c2] using e2
  rw [e3, e4]
  exact ⟨b, u2, N2, l2, rfl, k2⟩
theorem whole_world {H : Type} {enc : TypeId × Value → H} {W : World} {v : Value} {d : DataW H} {p : List MemPlace} (hw : ∃ cs, v = .agg cs ∧ cs.size = 2) (h : DataW.Trod enc Tryz.prog W 0 (fun _ => true) true 24 v d p) :
  ∃ N b l, WholeAt W N v b l := by
 obtain ⟨cs, rfl, hcs⟩ := hw
 obtain ⟨fuel, hf⟩ := h
 obtain ⟨x, y, rfl⟩ : ∃ x y, cs = #[x, y] := by
  obtain ⟨l⟩ := cs
  match l, hcs with
  | [x, y], _ => exact ⟨x, y, rfl⟩
 obtain ⟨b, u, N, l, e, k⟩ := whole_open hf
 obtain ⟨rfl, rfl⟩ : x = .bool b ∧ y = u := by simpa [Value.cells] using e
 exact ⟨N, b, l, _, rfl, k⟩
end Go.Proofs.YtbiigbicgfchiaaGreatDoor

/- What listed variables read as, in the abstract memory. Conditions: none. -/
namespace Go.Proofs.YtbiigbicgfchiaaGreatDoor
open Go Go.RowKit Ie
open Go.ChangeShapes Go.WideShapes Go.ChangeAt
section
variable {H : Type} {enc : TypeId × Value → H} {P : Program} {w : World} {base : Nat} {spare : Nat → Bool} {held : Bool} {fuel : Nat} {t : TypeId} {cs : List Value} {x : DataW H × List MemPlace}
theorem trod_float {k : FloatKind} (ht : P.underlying t = some (.float k)) (h : DataW.trod enc P w base spare held fuel t cs = some x) : ∃ b, cs = [.float k b] ∧ x = (.lit (.float k b), []) := by
 cases fuel with
 | zero => simp [DataW.trod] at h
 | succ n =>
  unfold DataW.trod at h
  rw [ht] at h
  split at h <;> simp_all
theorem arr_cells {n : Nat} {e : TypeId} {vs : List Value} {ls : List (DataW H)} {p : List MemPlace} (ht : P.underlying t = some (.array n e)) (c1 : P.cellsOf e = 1) (ct : P.cellsOf t = n) (hl : ls.length = n) (hvl : vs.length = n)
  (hel : ∀ (m i : Nat) (c : List Value) (y : DataW H × List MemPlace) (d : DataW H) (v : Value), DataW.trod enc P w base spare held m e c = some y → y.1 = d → ls[i]? = some d → vs[i]? = some v → c = [v])
  (h : DataW.trod enc P w base spare held fuel t cs = some (.agg ls, p)) : cs = vs := by
 obtain ⟨xs, m, rfl, hx, hlen, hn, hels⟩ := DataW.trod_array ht h
 simp only [Prod.mk.injEq, DataW.agg.injEq] at hx
 rw [ct] at hlen
 apply List.ext_getElem?
 intro i
 by_cases hi : i < n
 ·have h1 := hels i hi
  rw [c1, Nat.mul_one] at h1
  obtain ⟨y, hy⟩ : ∃ y, xs[i]? = some y := ⟨_, List.getElem?_eq_getElem (by omega)⟩
  obtain ⟨v, hv⟩ : ∃ v, vs[i]? = some v := ⟨_, List.getElem?_eq_getElem (by omega)⟩
  rw [hy] at h1
  have hd : ls[i]? = some y.1 := by rw [hx.1, List.getElem?_map, hy]; rfl
  have h2 := hel m i _ y y.1 v h1 rfl hd hv
  have h3 : ((cs.drop i).take 1)[0]? = some v := by rw [h2]; rfl
  rw [List.getElem?_take, if_pos (by decide), List.getElem?_drop, Nat.add_zero] at h3
  rw [h3, hv]
 ·rw [List.getElem?_eq_none (by omega), List.getElem?_eq_none (by omega)]
theorem arr_ints {n : Nat} {e : TypeId} {k : IntKind} {zs : List Int} {p : List MemPlace} (ht : P.underlying t = some (.array n e)) (he : P.underlying e = some (.int k)) (c1 : P.cellsOf e = 1) (ct : P.cellsOf t = n) (hl : zs.length = n)
  (h : DataW.trod enc P w base spare held fuel t cs = some (.agg (zs.map fun z => .lit (.int k z)), p)) : cs = zs.map (Value.int k) := by
 refine arr_cells ht c1 ct (by rw [List.length_map, hl]) (by rw [List.length_map, hl]) (fun m i c y d v h1 h2 h3 h4 => ?_) h
 obtain ⟨z, rfl, rfl, _⟩ := DataW.trod_int he h1
 dsimp only at h2
 subst h2
 rw [List.getElem?_map, Option.map_eq_some_iff] at h3 h4
 obtain ⟨z1, q1, q2⟩ := h3
 obtain ⟨z2, q3, rfl⟩ := h4
 rw [q1] at q3
 cases q3
 cases q2
 rfl
theorem arr_floats {n : Nat} {e : TypeId} {k : FloatKind} {zs : List Nat} {p : List MemPlace} (ht : P.underlying t = some (.array n e)) (he : P.underlying e = some (.float k)) (c1 : P.cellsOf e = 1) (ct : P.cellsOf t = n) (hl : zs.length = n)
  (h : DataW.trod enc P w base spare held fuel t cs = some (.agg (zs.map fun z => .lit (.float k z)), p)) : cs = zs.map (Value.float k) := by
 refine arr_cells ht c1 ct (by rw [List.length_map, hl]) (by rw [List.length_map, hl]) (fun m i c y d v h1 h2 h3 h4 => ?_) h
 obtain ⟨z, rfl, rfl⟩ := trod_float he h1
 dsimp only at h2
 subst h2
 rw [List.getElem?_map, Option.map_eq_some_iff] at h3 h4
 obtain ⟨z1, q1, q2⟩ := h3
 obtain ⟨z2, q3, rfl⟩ := h4
 rw [q1] at q3
 cases q3
 cases q2
 rfl
theorem laid_var {laid : List (String × DataW Unit)} {n : String} {d : DataW Unit} {ps : List MemPlace} (hm : (n, d) ∈ laid) (h : DataW.LaidVars P w laid ps) :
  ∃ g t cs fuel p, P.globalNamed n = some g ∧ (P.globals[g]?).map (·.type) = some t ∧ w.var? P n = some cs ∧ DataW.trod (fun _ => ()) P w 0 (fun _ => true) false fuel t cs.toList = some (d, p) := by
 induction laid generalizing ps with
 | nil => simp at hm
 | cons y l ih =>
  obtain ⟨n', d'⟩ := y
  obtain ⟨g, t, cs, fuel, p, q, h1, h2, h3, h4, h5, _⟩ := h
  rcases List.mem_cons.1 hm with h6 | h6
  ·cases h6
   exact ⟨g, t, cs, fuel, p, h1, h2, h3, h4⟩
  ·exact ih h6 h5
end
theorem var_row {W : World} {n : String} {g : Nat} {cs : Array Value} {vs : List Value} (hg : Tryz.prog.globalNamed n = some g) (hv : W.var? Tryz.prog n = some cs) (hcs : cs.toList = vs) (hs : vs.all scalar = true) :
  g < W.heap.size ∧ ∀ N, RowIs (mem0 W N) g vs := by
 simp only [World.var?, hg, Option.bind_some] at hv
 split at hv
 ·rename_i c e fz hh
  obtain rfl : c = cs := by simpa using hv
  refine ⟨(Array.getElem?_eq_some_iff.1 hh).1, fun N => ?_⟩
  obtain ⟨rw', hr, hrl, hrc⟩ := mem0_live (N := N) hh
  refine ⟨rw', hr, List.ext_getElem? fun k => ?_⟩
  rw [List.getElem?_take]
  split
  ·rename_i hk
   obtain ⟨v, hv⟩ : ∃ v, vs[k]? = some v := ⟨_, List.getElem?_eq_getElem hk⟩
   rw [hv]
   refine hrc k _ ?_ (fixed_scalar W N ?_)
   ·rw [← Array.getElem?_toList, hcs]; exact hv
   ·exact List.all_eq_true.1 hs _ (List.mem_of_getElem? hv)
  ·rename_i hk
   rw [List.getElem?_eq_none (by omega)]
 ·cases hv
end Go.Proofs.YtbiigbicgfchiaaGreatDoor

/- What the listed variables of layer 1 read as, in the abstract memory. Conditions: none. -/
namespace Go.Proofs.YtbiigbicgfchiaaGreatDoor
open Go Go.RowKit Ie
open Go.ChangeShapes Go.WideShapes Go.ChangeAt
abbrev laidL : List (String × DataW Unit) := [("math/bits.deBruijn32tab", Rows.laid_math_bits_deBruijn32tab), ("math/bits.deBruijn64tab", Rows.laid_math_bits_deBruijn64tab), ("internal/strconv.uint64pow10", Rows.laid_internal_strconv_uint64pow10), ("math._sin", Rows.laid_math_sin), ("math._cos", Rows.laid_math_cos), ("math.mPi4", Rows.laid_math_mPi4)]
theorem of_laid {W : World} (h : laidMetH Tryz.prog laidL W) : gN ≤ W.heap.size ∧ ∀ N, SinOk (mem0 W N) ∧ PowOk (mem0 W N) := by
 rw [MakeChecks.laidMetH_plain _ _ _ (by kernel_rfl)] at h
 obtain ⟨ps, hv, _, _⟩ := h
 obtain ⟨g1, t1, cs1, f1, p1, a1, b1, c1, d1⟩ := laid_var (n := "internal/strconv.uint64pow10") (d := Rows.laid_internal_strconv_uint64pow10) (by simp) hv
 obtain ⟨g2, t2, cs2, f2, p2, a2, b2, c2, d2⟩ := laid_var (n := "math._sin") (d := Rows.laid_math_sin) (by simp) hv
 obtain ⟨g3, t3, cs3, f3, p3, a3, b3, c3, d3⟩ := laid_var (n := "math._cos") (d := Rows.laid_math_cos) (by simp) hv
 obtain ⟨g4, t4, cs4, f4, p4, a4, b4, c4, d4⟩ := laid_var (n := "math/bits.deBruijn64tab") (d := Rows.laid_math_bits_deBruijn64tab) (by simp) hv
 obtain rfl := Option.some.inj ((show Tryz.prog.globalNamed "internal/strconv.uint64pow10" = some 5 by kernel_rfl).symm.trans a1)
 obtain rfl := Option.some.inj ((show Tryz.prog.globalNamed "math._sin" = some 4 by kernel_rfl).symm.trans a2)
 obtain rfl := Option.some.inj ((show Tryz.prog.globalNamed "math._cos" = some 3 by kernel_rfl).symm.trans a3)
 obtain rfl := Option.some.inj ((show Tryz.prog.globalNamed "math/bits.deBruijn64tab" = some 13 by kernel_rfl).symm.trans a4)
 obtain rfl := Option.some.inj ((show (Tryz.prog.globals[5]?).map (·.type) = some 171 by kernel_rfl).symm.trans b1)
 obtain rfl := Option.some.inj ((show (Tryz.prog.globals[4]?).map (·.type) = some 169 by kernel_rfl).symm.trans b2)
 obtain rfl := Option.some.inj ((show (Tryz.prog.globals[3]?).map (·.type) = some 169 by kernel_rfl).symm.trans b3)
 have e1 : cs1.toList = powT := arr_ints (k := .u64) (zs := (List.range 20).map fun i => ((10 ^ i : Nat) : Int)) Tryz.underlying171 Tryz.underlying57 (by kernel_rfl) (by kernel_rfl) rfl d1
 have e2 : cs2.toList = sinT.map vf := arr_floats (k := .f64) (zs := sinT) Tryz.underlying169 Tryz.underlying117 (by kernel_rfl) (by kernel_rfl) rfl d2
 have e3 : cs3.toList = cosT.map vf := arr_floats (k := .f64) (zs := cosT) Tryz.underlying169 Tryz.underlying117 (by kernel_rfl) (by kernel_rfl) rfl d3
 have r1 := var_row a1 c1 e1 rfl
 have r2 := var_row a2 c2 e2 rfl
 have r3 := var_row a3 c3 e3 rfl
 have hlt : 13 < W.heap.size := by
  simp only [World.var?, a4, Option.bind_some] at c4
  split at c4
  ·rename_i c e fz hh
   exact (Array.getElem?_eq_some_iff.1 hh).1
  ·cases c4
 have hgN : gN ≤ 13 + 1 := Nat.le_of_ble_eq_true (by kernel_rfl)
 exact ⟨by omega, fun N => ⟨⟨r3.2 N, r2.2 N⟩, r1.2 N⟩⟩
theorem door_met (os : Os) (args : Array Value) : laidMetH Tryz.prog laidL ((World.doorLaid Tryz.prog 400 os).forCall (fun _ _ => 0) ⟨#[], args, []⟩).memory :=
 laidMetH_of_parts3 (fuel := 8) (laidMet_of_run' 8 (by kernel_rfl) (by kernel_rfl)) (by kernel_rfl) (by kernel_rfl)
end Go.Proofs.YtbiigbicgfchiaaGreatDoor
