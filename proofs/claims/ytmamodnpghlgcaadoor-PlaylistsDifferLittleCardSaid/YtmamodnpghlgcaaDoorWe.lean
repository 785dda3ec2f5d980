/- The law of the difference: for all segments, places and delays and every instant PlaylistsDifferLittle answers true, and its arguments read as before; no condition beyond what the row says. -/
import Derived.Test.YtmamodnpghlgcaaDoorWd
import Derived.Handed
import Derived.Deep.Slices
import Derived.OpenShut
import Derived.ProofKit
import Derived.Carry
import Derived.LaidSub
import Derived.Lay
import Derived.Lib.LaidTab
import Derived.Stop.LaidErr
import Derived.Shelf.Vars
import Derived.Test.YtmamodnpghlgcaaDoorRows
import Derived.MakeChecks
import Derived.LaidMore
import Derived.SevenTiedAt
import Derived.Test.YtmamodnpghlgcaaDoorCards
import Derived.Test.YtmamodnpghlgcaaDoorTie
import Derived.JoinedOf
import Derived.Stop.Joined
import Derived.ChangeMaps5
/- From what an argument reads as to what the walks ask: everything that memory holds at the call is taken as what never turns. -/
set_option linter.unusedSimpArgs false
set_option linter.unusedVariables false
set_option maxRecDepth 100000
namespace Go.Proofs.YtmamodnpghlgcaaDoor
open Go.RowKit Go.ChangeShapes Go.WideShapes Go.ChangeAt
/-- All of memory. -/
def Hp.all (W : World) : Hp := ⟨fun b o => W.cell? ⟨b, o, none⟩, fun b => match W.heap[b]? with | some (.map es _) => some es | _ => none, fun b => W.heap[b]?⟩
theorem Hp.all_in (W : World) : (Hp.all W).inw W where
  cell := fun b o v h => h
  mp := fun b m h => by
    simp only [Hp.all] at h
    split at h
    · rename_i es c he
      obtain rfl := Option.some.inj h
      exact ⟨c, he⟩
    · cases h
  ob := fun b o h => h
def Fact.above (s : Hp) : Fact := ⟨fun t => s.le t, fun _ _ h k => Hp.le_trans k h⟩
theorem above_to {s : Hp} {G : Fact} (h : G.p s) : (Fact.above s).to G := fun t k => G.mono s t k h
theorem above_row {W : World} {a : Addr} {n z : Nat} {cs : List Value} (hz : 0 < z) (hl : cs.length = n * z) (h : ∀ i, i < n → ∃ cs', W.cells? 0 (a.add (i * z)) z = some cs' ∧ ∀ j, j < z → cs[i * z + j]? = cs'[j]?) : (Fact.above (Hp.all W)).to (rowF (some a) cs) := by
  refine above_to ?_
  by_cases hn : n = 0
  · exact .inl (List.eq_nil_of_length_eq_zero (by rw [hl, hn, Nat.zero_mul]))
  · have hsp : a.spot = none := by
      obtain ⟨cs', h1, _⟩ := h 0 (by omega)
      obtain ⟨_, h2, h3⟩ := World.cells?_some h1
      have h4 := h3 0 hz
      rw [Nat.zero_mul, show (a.add 0).add 0 = a from rfl, List.getElem?_eq_getElem (by omega)] at h4
      unfold World.cell? at h4
      split at h4
      · split at h4
        · cases h4
        · rename_i hs; simpa using hs
      · cases h4
    refine .inr ⟨a, rfl, hsp, fun j v hv => ?_⟩
    have hj : j < n * z := by rw [← hl]; exact (List.getElem?_eq_some_iff.1 hv).1
    have hi : j / z < n := Nat.div_lt_of_lt_mul (by rw [Nat.mul_comm]; exact hj)
    have hr : j % z < z := Nat.mod_lt _ hz
    obtain ⟨cs', h1, h2⟩ := h (j / z) hi
    obtain ⟨_, _, h3⟩ := World.cells?_some h1
    have h4 := h3 (j % z) hr
    have e : j / z * z + j % z = j := by rw [Nat.mul_comm]; exact Nat.div_add_mod j z
    rw [← h2 _ hr, e, hv, Addr.add_add, e, Addr.add_none hsp] at h4
    exact h4
section
variable {H : Type} {enc : TypeId × Value → H} {W : World} {base : Nat} {sp : Nat → Bool} {held : Bool} {fuel : Nat} {t : TypeId} {cs : List Value} {x : DataW H × List MemPlace}
theorem trod_field {L : List (Bool × TypeId × Nat)} (ht : Tryd.prog.underlying t = some (.struct (Tryd.prog.fieldsOf t))) (hf : fieldsL Tryd.prog t = L) (h : DataW.trod enc Tryd.prog W base sp held fuel t cs = some x) {i : Nat} {b : Bool} {ty : TypeId} {off : Nat} (hi : L[i]? = some (b, ty, off)) : ∃ n y, DataW.trod enc Tryd.prog W base sp held n ty ((cs.drop off).take (Tryd.prog.cellsOf ty)) = some y := by
  obtain ⟨xs, n, _, _, _, hl, hx⟩ := DataW.trod_struct ht h
  rw [← hf, fieldsL, List.getElem?_map, Option.map_eq_some_iff] at hi
  obtain ⟨f, h1, h2⟩ := hi
  rw [Array.getElem?_toList] at h1
  have h3 := hx i f h1
  have hlt : i < xs.length := by rw [hl]; exact (Array.getElem?_eq_some_iff.1 h1).1
  rw [List.getElem?_eq_getElem hlt] at h3
  simp only [Prod.mk.injEq] at h2
  rw [← h2.2.1, ← h2.2.2]
  exact ⟨n, _, h3⟩
theorem trod_item {e : TypeId} {n : Nat} (ht : Tryd.prog.underlying t = some (.array n e)) (h : DataW.trod enc Tryd.prog W base sp held fuel t cs = some x) {i : Nat} (hi : i < n) : ∃ m y, DataW.trod enc Tryd.prog W base sp held m e ((cs.drop (i * Tryd.prog.cellsOf e)).take (Tryd.prog.cellsOf e)) = some y := by
  obtain ⟨xs, m, _, _, _, hl, hx⟩ := DataW.trod_array ht h
  have h3 := hx i hi
  rw [List.getElem?_eq_getElem (by omega)] at h3
  exact ⟨m, _, h3⟩
theorem take_one {cs : List Value} {off : Nat} {v : Value} (h : (cs.drop off).take 1 = [v]) : cs[off]? = some v := by
  have : ((cs.drop off).take 1)[0]? = some v := by rw [h]; rfl
  simpa using this
theorem trod_cell {k : IntKind} {off : Nat} (ht : Tryd.prog.underlying t = some (.int k)) (h : DataW.trod enc Tryd.prog W base sp held fuel t ((cs.drop off).take 1) = some x) : ∃ z, cs[off]? = some (.int k z) ∧ (Lit.int k z).wf = true := by
  obtain ⟨z, h1, _, h3⟩ := DataW.trod_int ht h
  exact ⟨z, take_one h1, h3⟩
def intAt (cs : List Value) (j : Nat) : Int := match cs[j]? with
  | some (.int _ z) => z
  | _ => 0
theorem intAt_of {cs : List Value} {j : Nat} {k : IntKind} {z : Int} (h : cs[j]? = some (.int k z)) : cs[j]? = some (.int k (intAt cs j)) := by
  unfold intAt
  rw [h]
/-- What a segment's numbers can be. -/
structure Seg.Rng (s : Seg) : Prop where
  num : -9223372036854775808 ≤ s.num ∧ s.num ≤ 9223372036854775807
  beg : -9223372036854775808 ≤ s.beg ∧ s.beg ≤ 9223372036854775807
  len : -9223372036854775808 ≤ s.len ∧ s.len ≤ 9223372036854775807
  size : -9223372036854775808 ≤ s.size ∧ s.size ≤ 9223372036854775807
  body : s.BOk
theorem segC_body (s : Seg) {i : Nat} (h : i < 16) : (segC s)[3 + i]? = some (.int .u8 (s.body i)) := by
  have : i = 0 ∨ i = 1 ∨ i = 2 ∨ i = 3 ∨ i = 4 ∨ i = 5 ∨ i = 6 ∨ i = 7 ∨ i = 8 ∨ i = 9 ∨ i = 10 ∨ i = 11 ∨ i = 12 ∨ i = 13 ∨ i = 14 ∨ i = 15 := by omega
  rcases this with rfl|rfl|rfl|rfl|rfl|rfl|rfl|rfl|rfl|rfl|rfl|rfl|rfl|rfl|rfl|rfl <;> rfl
theorem hC3 : Tryd.prog.cellsOf 3 = 1 := by kernel_rfl
theorem hC55 : Tryd.prog.cellsOf 38 = 16 := by kernel_rfl
theorem hC57 : Tryd.prog.cellsOf 40 = 20 := by kernel_rfl
theorem seg_of_trod (h : DataW.trod enc Tryd.prog W base sp held fuel 40 cs = some x) : ∃ s : Seg, cs = segC s ∧ s.Rng := by
  have hlen : cs.length = 20 := by
    obtain ⟨_, _, _, _, h1, _⟩ := DataW.trod_struct hS57 h
    rw [h1, hC57]
  have c0 : ∃ z, cs[0]? = some (.int .i64 z) ∧ (Lit.int .i64 z).wf = true := by
    obtain ⟨n, y, h1⟩ := trod_field hS57 hf57 h (i := 0) rfl
    rw [hC3] at h1; exact trod_cell hI3 h1
  have c1 : ∃ z, cs[1]? = some (.int .i64 z) ∧ (Lit.int .i64 z).wf = true := by
    obtain ⟨n, y, h1⟩ := trod_field hS57 hf57 h (i := 1) rfl
    rw [hC3] at h1; exact trod_cell hI3 h1
  have c2 : ∃ z, cs[2]? = some (.int .i64 z) ∧ (Lit.int .i64 z).wf = true := by
    obtain ⟨n, y, h1⟩ := trod_field hS57 hf57 h (i := 2) rfl
    rw [hC3] at h1; exact trod_cell hI3 h1
  have c19 : ∃ z, cs[19]? = some (.int .i64 z) ∧ (Lit.int .i64 z).wf = true := by
    obtain ⟨n, y, h1⟩ := trod_field hS57 hf57 h (i := 4) rfl
    rw [hC3] at h1; exact trod_cell hI3 h1
  have cb : ∀ i, i < 16 → ∃ z, cs[3 + i]? = some (.int .u8 z) ∧ (Lit.int .u8 z).wf = true := by
    intro i hi
    obtain ⟨n, y, h1⟩ := trod_field hS57 hf57 h (i := 3) rfl
    obtain ⟨m, y2, h2⟩ := trod_item hU55 h1 hi
    rw [hC55, hC5, Nat.mul_one] at h2
    obtain ⟨z, h3, h4⟩ := trod_cell hI5 h2
    rw [List.getElem?_take, if_pos hi, List.getElem?_drop] at h3
    exact ⟨z, h3, h4⟩
  have at0 : ∀ {j : Nat} {k : IntKind}, (∃ z, cs[j]? = some (.int k z) ∧ (Lit.int k z).wf = true) → cs[j]? = some (.int k (intAt cs j)) ∧ (Lit.int k (intAt cs j)).wf = true := by
    rintro j k ⟨z, h1, h2⟩
    have h3 := intAt_of h1
    refine ⟨h3, ?_⟩
    rw [h1] at h3
    obtain ⟨_, h4⟩ := Value.int.inj (Option.some.inj h3)
    rw [← h4]
    exact h2
  refine ⟨⟨intAt cs 0, intAt cs 1, intAt cs 2, fun i => intAt cs (3 + i), intAt cs 19⟩, ?_, ⟨bounds_i64 (at0 c0).2, bounds_i64 (at0 c1).2, bounds_i64 (at0 c2).2, bounds_i64 (at0 c19).2, fun i hi => bounds_u8 (at0 (cb i hi)).2⟩⟩
  refine List.ext_getElem? fun j => ?_
  by_cases hj : j < 20
  · by_cases h3 : 3 ≤ j ∧ j < 19
    · obtain ⟨i, rfl⟩ : ∃ i, j = 3 + i := ⟨j - 3, by omega⟩
      rw [segC_body _ (by omega)]
      exact (at0 (cb i (by omega))).1
    · have : j = 0 ∨ j = 1 ∨ j = 2 ∨ j = 19 := by omega
      rcases this with rfl | rfl | rfl | rfl
      · exact (at0 c0).1
      · exact (at0 c1).1
      · exact (at0 c2).1
      · exact (at0 c19).1
  · rw [List.getElem?_eq_none (by omega), List.getElem?_eq_none (by rw [segC_length]; omega)]
theorem hUL : Tryd.prog.underlying 22 = some (.slice 40) := by kernel_rfl
/-- A slice of segments. -/
theorem segs_of_trod (h : DataW.trod enc Tryd.prog W 0 sp held fuel 22 cs = some x) : ∃ (l : List Seg) (a : Option Addr) (c : Nat), cs = [.slice a l.length c] ∧ l.length ≤ c ∧ c ≤ maxLen ∧ (Fact.above (Hp.all W)).to (rowF a (segsC l)) ∧ ∀ s ∈ l, s.Rng := by
  rcases Go.Deep.open_slice hUL h with ⟨rfl, _⟩ | ⟨a, len, cap, m, n, D, Pl, rfl, _, hl, hm, hmm, _, hx⟩
  · exact ⟨[], none, 0, rfl, Nat.le_refl _, Nat.zero_le _, rowF_nil _ _, fun s hs => by cases hs⟩
  · have hle : len ≤ m := by rw [hmm]; split <;> omega
    rw [hC57] at hx
    have hch : ∃ g : Nat → Seg, ∀ i, i < len → ∃ cs', W.cells? 0 (a.add (i * 20)) 20 = some cs' ∧ cs' = segC (g i) ∧ (g i).Rng := by
      classical
      have hex : ∀ i, i < len → ∃ s : Seg, ∃ cs', W.cells? 0 (a.add (i * 20)) 20 = some cs' ∧ cs' = segC s ∧ s.Rng := fun i hi => by
        obtain ⟨cs', h1, h2⟩ := hx i (by omega)
        obtain ⟨s, h3, h4⟩ := seg_of_trod h2
        exact ⟨s, cs', h1, h3, h4⟩
      refine ⟨fun i => if hi : i < len then Classical.choose (hex i hi) else seg0, fun i hi => ?_⟩
      simp only [dif_pos hi]
      exact Classical.choose_spec (hex i hi)
    obtain ⟨g, hg⟩ := hch
    have hll : ((List.range len).map g).length = len := by simp
    refine ⟨(List.range len).map g, some a, cap, by rw [hll], by rw [hll]; exact hl, hm, above_row (n := len) (z := 20) (by decide) (by rw [segsC_length, hll]) fun i hi => ?_, fun s hs => ?_⟩
    · obtain ⟨cs', h1, h2, _⟩ := hg i hi
      refine ⟨cs', h1, fun j hj => ?_⟩
      have h3 : ((List.range len).map g)[i]? = some (g i) := by simp [hi]
      have h4 : (segC (g i))[j]? = some ((segC (g i))[j]'(by rw [segC_length]; exact hj)) := List.getElem?_eq_getElem _
      rw [segsC_get h3 j _ h4, h2, h4]
    · simp only [List.mem_map, List.mem_range] at hs
      obtain ⟨i, hi, rfl⟩ := hs
      exact (hg i hi).choose_spec.2.2
theorem hS24 : Tryd.prog.underlying 27 = some (.struct (Tryd.prog.fieldsOf 27)) := by kernel_rfl
theorem hf24 : fieldsL Tryd.prog 27 = [(false, 3, 0), (false, 22, 1), (false, 4, 2)] := by kernel_rfl
theorem hB4 : Tryd.prog.underlying 4 = some .bool := by kernel_rfl
theorem hC4 : Tryd.prog.cellsOf 4 = 1 := by kernel_rfl
theorem hC22 : Tryd.prog.cellsOf 22 = 1 := by kernel_rfl
theorem hC24 : Tryd.prog.cellsOf 27 = 3 := by kernel_rfl
structure Pl.Rng (p : Pl) : Prop where
  first : -9223372036854775808 ≤ p.first ∧ p.first ≤ 9223372036854775807
  len : p.l.length ≤ maxLen
  segs : ∀ s ∈ p.l, s.Rng
theorem pl_of_trod (h : DataW.trod enc Tryd.prog W 0 sp held fuel 27 cs = some x) : ∃ p : Pl, isPl p (Fact.above (Hp.all W)) (.agg cs.toArray) ∧ p.Rng := by
  have hlen : cs.length = 3 := by
    obtain ⟨_, _, _, _, h1, _⟩ := DataW.trod_struct hS24 h
    rw [h1, hC24]
  obtain ⟨n0, y0, h0⟩ := trod_field hS24 hf24 h (i := 0) rfl
  obtain ⟨n1, y1, h1⟩ := trod_field hS24 hf24 h (i := 1) rfl
  obtain ⟨n2, y2, h2⟩ := trod_field hS24 hf24 h (i := 2) rfl
  rw [hC3] at h0
  rw [hC22] at h1
  rw [hC4] at h2
  obtain ⟨f, k0, w0⟩ := trod_cell hI3 h0
  obtain ⟨l, a, c, k1, hlc, hcm, hF, hr⟩ := segs_of_trod h1
  obtain ⟨d, k2, _⟩ := DataW.trod_bool hB4 h2
  have k1 := take_one k1
  have k2 := take_one k2
  have hcs : cs = [.int .i64 f, .slice a l.length c, .bool d] := by
    match cs, hlen with
    | [u, v, w], _ =>
      simp only [List.getElem?_cons_zero, List.getElem?_cons_succ, Option.some.injEq] at k0 k1 k2
      rw [k0, k1, k2]
  subst hcs
  exact ⟨⟨f, l, d⟩, ⟨a, c, rfl, hlc, hF⟩, ⟨bounds_i64 w0, Nat.le_trans hlc hcm, hr⟩⟩
theorem agg_of_cells {v : Value} {n : Nat} (h : v.cells.toList.length = n) (hn : n ≠ 1) : v = .agg v.cells := by
  cases v <;> first | rfl | (exact absurd h (fun e => hn e.symm))
theorem pl_arg {v : Value} {d : DataW H} {ps : List MemPlace} (h : DataW.Trod enc Tryd.prog W 0 sp held 27 v d ps) : ∃ p : Pl, isPl p (Fact.above (Hp.all W)) v ∧ p.Rng := by
  obtain ⟨fuel, h⟩ := h
  have hlen : v.cells.toList.length = 3 := by
    obtain ⟨_, _, _, _, h1, _⟩ := DataW.trod_struct hS24 h
    rw [h1, hC24]
  have hv := agg_of_cells hlen (by decide)
  obtain ⟨p, h1, h2⟩ := pl_of_trod h
  rw [Array.toArray_toList, ← hv] at h1
  exact ⟨p, h1, h2⟩
theorem seg_arg {v : Value} {d : DataW H} {ps : List MemPlace} (h : DataW.Trod enc Tryd.prog W base sp held 40 v d ps) : ∃ s : Seg, v = segV s ∧ s.Rng := by
  obtain ⟨fuel, h⟩ := h
  have hlen : v.cells.toList.length = 20 := by
    obtain ⟨_, _, _, _, h1, _⟩ := DataW.trod_struct hS57 h
    rw [h1, hC57]
  have hv := agg_of_cells hlen (by decide)
  obtain ⟨s, h1, h2⟩ := seg_of_trod h
  refine ⟨s, ?_, h2⟩
  rw [hv]
  unfold segV
  rw [← h1, Array.toArray_toList]
theorem hUI : Tryd.prog.underlying 46 = some (.slice 3) := by kernel_rfl
/-- A slice of numbers. -/
theorem ints_of_trod (h : DataW.trod enc Tryd.prog W 0 sp held fuel 46 cs = some x) : ∃ (l : List Int) (a : Option Addr) (c : Nat), cs = [.slice a l.length c] ∧ l.length ≤ c ∧ c ≤ maxLen ∧ (Fact.above (Hp.all W)).to (rowF a (ints l)) ∧ ∀ z ∈ l, -9223372036854775808 ≤ z ∧ z ≤ 9223372036854775807 := by
  rcases Go.Deep.open_slice hUI h with ⟨rfl, _⟩ | ⟨a, len, cap, m, n, D, Pl, rfl, _, hl, hm, hmm, _, hx⟩
  · exact ⟨[], none, 0, rfl, Nat.le_refl _, Nat.zero_le _, rowF_nil _ _, fun s hs => by cases hs⟩
  · have hle : len ≤ m := by rw [hmm]; split <;> omega
    rw [hC3] at hx
    have hch : ∃ g : Nat → Int, ∀ i, i < len → W.cells? 0 (a.add (i * 1)) 1 = some [.int .i64 (g i)] ∧ (Lit.int .i64 (g i)).wf = true := by
      classical
      have hex : ∀ i, i < len → ∃ z : Int, W.cells? 0 (a.add (i * 1)) 1 = some [.int .i64 z] ∧ (Lit.int .i64 z).wf = true := fun i hi => by
        obtain ⟨cs', h1, h2⟩ := hx i (by omega)
        obtain ⟨z, h3, _, h4⟩ := DataW.trod_int hI3 h2
        exact ⟨z, by rw [h1, h3], h4⟩
      refine ⟨fun i => if hi : i < len then Classical.choose (hex i hi) else 0, fun i hi => ?_⟩
      simp only [dif_pos hi]
      exact Classical.choose_spec (hex i hi)
    obtain ⟨g, hg⟩ := hch
    have hll : ((List.range len).map g).length = len := by simp
    refine ⟨(List.range len).map g, some a, cap, by rw [hll], by rw [hll]; exact hl, hm, above_row (n := len) (z := 1) (by decide) (by rw [ints_length, hll, Nat.mul_one]) fun i hi => ⟨_, (hg i hi).1, fun j hj => ?_⟩, fun s hs => ?_⟩
    · obtain rfl : j = 0 := by omega
      simp [ints, hi]
    · simp only [List.mem_map, List.mem_range] at hs
      obtain ⟨i, hi, rfl⟩ := hs
      exact bounds_i64 (hg i hi).2
theorem hUII : Tryd.prog.underlying 47 = some (.slice 46) := by kernel_rfl
theorem hC43 : Tryd.prog.cellsOf 46 = 1 := by kernel_rfl
theorem hC44 : Tryd.prog.cellsOf 47 = 1 := by kernel_rfl
/-- A slice of slices of numbers. -/
theorem intss_of_trod (h : DataW.trod enc Tryd.prog W 0 sp held fuel 47 cs = some x) : ∃ (ls : List (List Int)) (a : Option Addr) (c : Nat), cs = [.slice a ls.length c] ∧ ls.length ≤ c ∧ c ≤ maxLen ∧ isIntss ls (Fact.above (Hp.all W)) (.slice a ls.length c) ∧ ∀ l ∈ ls, ∀ z ∈ l, -9223372036854775808 ≤ z ∧ z ≤ 9223372036854775807 := by
  rcases Go.Deep.open_slice hUII h with ⟨rfl, _⟩ | ⟨a, len, cap, m, n, D, Pl, rfl, _, hl, hm, hmm, _, hx⟩
  · exact ⟨[], none, 0, rfl, Nat.le_refl _, Nat.zero_le _, isIntss_nil _, fun s hs => by cases hs⟩
  · have hle : len ≤ m := by rw [hmm]; split <;> omega
    rw [hC43] at hx
    have hch : ∃ g : Nat → List Int × Option Addr × Nat, ∀ i, i < len → W.cells? 0 (a.add (i * 1)) 1 = some [.slice (g i).2.1 (g i).1.length (g i).2.2] ∧ (g i).1.length ≤ (g i).2.2 ∧ (Fact.above (Hp.all W)).to (rowF (g i).2.1 (ints (g i).1)) ∧ ∀ z ∈ (g i).1, -9223372036854775808 ≤ z ∧ z ≤ 9223372036854775807 := by
      classical
      have hex : ∀ i, i < len → ∃ y : List Int × Option Addr × Nat, W.cells? 0 (a.add (i * 1)) 1 = some [.slice y.2.1 y.1.length y.2.2] ∧ y.1.length ≤ y.2.2 ∧ (Fact.above (Hp.all W)).to (rowF y.2.1 (ints y.1)) ∧ ∀ z ∈ y.1, -9223372036854775808 ≤ z ∧ z ≤ 9223372036854775807 := fun i hi => by
        obtain ⟨cs', h1, h2⟩ := hx i (by omega)
        obtain ⟨l, a', c', h3, h4, _, h5, h6⟩ := ints_of_trod h2
        exact ⟨(l, a', c'), by rw [h1, h3], h4, h5, h6⟩
      refine ⟨fun i => if hi : i < len then Classical.choose (hex i hi) else ([], none, 0), fun i hi => ?_⟩
      simp only [dif_pos hi]
      exact Classical.choose_spec (hex i hi)
    obtain ⟨g, hg⟩ := hch
    have hll : ((List.range len).map fun i => (g i).1).length = len := by simp
    refine ⟨(List.range len).map fun i => (g i).1, some a, cap, by rw [hll], by rw [hll]; exact hl, hm, ⟨some a, cap, fun i => (g i).2.1, fun i => (g i).2.2, rfl, by rw [hll]; exact hl, above_row (n := len) (z := 1) (by decide) (by rw [slcs_length, hll, Nat.mul_one]) fun i hi => ⟨_, (hg i hi).1, fun j hj => ?_⟩, fun i l hil => ?_⟩, fun s hs => ?_⟩
    · obtain rfl : j = 0 := by omega
      have h3 : ((List.range len).map fun i => (g i).1)[i]? = some (g i).1 := by simp [hi]
      rw [Nat.mul_one, Nat.add_zero, slcs_get h3]
      rfl
    · have hi : i < len := by have := (List.getElem?_eq_some_iff.1 hil).1; rwa [hll] at this
      have h3 : ((List.range len).map fun i => (g i).1)[i]? = some (g i).1 := by simp [hi]
      rw [h3] at hil
      obtain rfl := Option.some.inj hil
      exact ⟨(hg i hi).2.1, (hg i hi).2.2.1⟩
    · simp only [List.mem_map, List.mem_range] at hs
      obtain ⟨i, hi, rfl⟩ := hs
      exact (hg i hi).2.2.2
theorem one_cell {v : Value} {a : Option Addr} {n c : Nat} (hv : ∃ a n c, v = .slice a n c) (h : v.cells.toList = [.slice a n c]) : v = .slice a n c := by
  obtain ⟨a', n', c', rfl⟩ := hv
  simpa [Value.cells] using h
theorem segs_arg {b : Nat} {v : Value} {d : DataW H} {ps : List MemPlace} (hv : Value.okWide Tryd.prog W .any b 22 v) (h : DataW.Trod enc Tryd.prog W 0 sp held 22 v d ps) : ∃ (l : List Seg) (a : Option Addr) (c : Nat), v = .slice a l.length c ∧ l.length ≤ c ∧ c ≤ maxLen ∧ (Fact.above (Hp.all W)).to (rowF a (segsC l)) ∧ ∀ s ∈ l, s.Rng := by
  obtain ⟨fuel, h⟩ := h
  obtain ⟨l, a, c, h1, h2⟩ := segs_of_trod h
  exact ⟨l, a, c, one_cell (okWide_slice hUL hv) h1, h2⟩
theorem ints_arg {b : Nat} {v : Value} {d : DataW H} {ps : List MemPlace} (hv : Value.okWide Tryd.prog W .any b 46 v) (h : DataW.Trod enc Tryd.prog W 0 sp held 46 v d ps) : ∃ l : List Int, isInts l (Fact.above (Hp.all W)) v ∧ l.length ≤ maxLen ∧ ∀ z ∈ l, -9223372036854775808 ≤ z ∧ z ≤ 9223372036854775807 := by
  obtain ⟨fuel, h⟩ := h
  obtain ⟨l, a, c, h1, h2, h3, h4, h5⟩ := ints_of_trod h
  exact ⟨l, ⟨a, c, one_cell (okWide_slice hUI hv) h1, h2, h4⟩, Nat.le_trans h2 h3, h5⟩
theorem intss_arg {b : Nat} {v : Value} {d : DataW H} {ps : List MemPlace} (hv : Value.okWide Tryd.prog W .any b 47 v) (h : DataW.Trod enc Tryd.prog W 0 sp held 47 v d ps) : ∃ ls : List (List Int), isIntss ls (Fact.above (Hp.all W)) v ∧ ls.length ≤ maxLen ∧ ∀ l ∈ ls, ∀ z ∈ l, -9223372036854775808 ≤ z ∧ z ≤ 9223372036854775807 := by
  obtain ⟨fuel, h⟩ := h
  obtain ⟨ls, a, c, h1, h2, h3, h4, h5⟩ := intss_of_trod h
  have := one_cell (okWide_slice hUII hv) h1
  subst this
  exact ⟨ls, h4, Nat.le_trans h2 h3, h5⟩
end
end Go.Proofs.YtmamodnpghlgcaaDoor
/- The frame of a law's statement: from its contract to what the row says. -/
set_option linter.unusedSimpArgs false
set_option linter.unusedVariables false
set_option maxRecDepth 100000
namespace Go.Proofs.YtmamodnpghlgcaaDoor
open Go.RowKit Go.ChangeShapes Go.WideShapes Go.ChangeAt
/-- What the row lists. -/
def lst : List (String × DataW Unit) := [("math/bits.deBruijn32tab", Rows.laid_math_bits_deBruijn32tab), ("math/bits.deBruijn64tab", Rows.laid_math_bits_deBruijn64tab), ("internal/strconv.uint64pow10", Rows.laid_internal_strconv_uint64pow10), ("unicode/utf8.acceptRanges", Rows.laid_unicode_utf8_acceptRanges), ("strconv.ErrRange", Rows.laid_strconv_ErrRange), ("strconv.ErrSyntax", Rows.laid_strconv_ErrSyntax), ("unicode/utf8.first", Rows.laid_unicode_utf8_first)]
theorem laid_at {W : World} (h : laidMetH Tryd.prog lst W) (n : String) (d : DataW Unit) (hf : lst.filter (fun x => x.1 == n) = [(n, d)]) (hn : d.handleName?.isNone = true) : laidMet Tryd.prog [(n, d)] W := by
  have h1 := laidMetH.filter (fun x => x.1 == n) h
  rw [hf, MakeChecks.laidMetH_plain _ _ _ (by simp [hn])] at h1
  exact h1
theorem var_ob {W : World} {n : String} {cs : Array Value} (h : W.var? Tryd.prog n = some cs) : ∃ g ty fr, Tryd.prog.globalNamed n = some g ∧ W.heap[g]? = some (.cells cs ty fr) := by
  unfold World.var? at h
  obtain ⟨g, hg, h1⟩ := Option.bind_eq_some_iff.1 h
  split at h1
  · rename_i cs' ty fr he
    obtain rfl := Option.some.inj h1
    exact ⟨g, ty, fr, hg, he⟩
  · cases h1
theorem varP_of {W : World} {n : String} {cs : Array Value} {Q : Array Value → Prop} (h : W.var? Tryd.prog n = some cs) (hq : Q cs) : varP (Hp.all W) n Q := by
  obtain ⟨g, ty, fr, h1, h2⟩ := var_ob h
  exact ⟨g, cs, ty, fr, h1, h2, hq⟩
theorem iface_laid {W : World} {n nm : String} {d : DataW Unit} {g ti : Nat} {ms : Array (String × TypeId)} (h : laidMet Tryd.prog [(n, .iface nm d)] W) (hg : Tryd.prog.globalNamed n = some g) (ht : (Tryd.prog.globals[g]?).map (·.type) = some ti) (hi : Tryd.prog.underlying ti = some (.interface ms)) : ∃ tp p, W.var? Tryd.prog n = some #[.iface tp p] := by
  obtain ⟨ps, ⟨g0, t0, cs0, f0, p0, q0, hg0, ht0, hv0, hd0, _, _⟩, _, _⟩ := h
  obtain rfl := Option.some.inj (hg.symm.trans hg0)
  obtain rfl := Option.some.inj (ht.symm.trans ht0)
  obtain ⟨l0⟩ := cs0
  cases f0 with
  | zero => simp [DataW.trod] at hd0
  | succ f =>
    unfold DataW.trod at hd0
    rw [hi] at hd0
    split at hd0 <;> first
      | (rename_i u v _ _; exact ⟨u, v, hv0⟩)
      | simp_all
theorem hIs : ∃ ms, Tryd.prog.underlying 87 = some (.interface ms) := ⟨_, Tryd.underlying87⟩
theorem lib_of {W : World} (h : laidMetH Tryd.prog lst W) (hsh : W.ShapedOpen Tryd.prog) : libF.p (Hp.all W) := by
  refine ⟨?_, ?_, ?_, ?_⟩
  · have h1 := laid_at h "internal/strconv.uint64pow10" Rows.laid_internal_strconv_uint64pow10 (by kernel_rfl) (by kernel_rfl)
    have e1 : (Rows.laid_internal_strconv_uint64pow10 : DataW Unit) = Lib.tabData .u64 Lib.pow10Tab := by kernel_rfl
    rw [e1] at h1
    exact varP_of (Lib.tabIs_of_head (g := 3) (t := 127) (e := 112) (n := 20) (by kernel_rfl) (by kernel_rfl) (by kernel_rfl) (by kernel_rfl) (by kernel_rfl) (by kernel_rfl) h1) rfl
  · obtain ⟨m, hm⟩ := Go.Proofs.cell_of_shapedOpen_int (g := 0) (zero := #[.int .i64 0]) (t := 3) (k := .i64) hsh (of_decide_eq_true (by kernel_rfl)) (by kernel_rfl) rfl (by kernel_rfl) (by kernel_rfl) (by kernel_rfl)
    obtain ⟨cs, hh, hs, _⟩ := hsh.1 0 #[.int .i64 0] 3 (of_decide_eq_true (by kernel_rfl)) (by kernel_rfl)
    refine ⟨0, cs, _, _, by kernel_rfl, hh, m, ?_⟩
    have h1 : cs.size = 1 := hs
    have h2 : cs[0]? = some (.int .i64 m) := by
      unfold World.cell? at hm
      rw [hh] at hm
      simpa using hm
    obtain ⟨l⟩ := cs
    match l, h1, h2 with
    | [v], _, h2 =>
      simp only [List.getElem?_toArray, List.getElem?_cons_zero, Option.some.injEq] at h2
      rw [h2]
  · have h1 := laid_at h "strconv.ErrSyntax" Rows.laid_strconv_ErrSyntax (by kernel_rfl) (by kernel_rfl)
    obtain ⟨ms, hi⟩ := hIs
    obtain ⟨tp, p, h2⟩ := iface_laid (g := 1) (ti := 87) h1 (by kernel_rfl) (by kernel_rfl) hi
    exact varP_of h2 ⟨tp, p, rfl⟩
  · have h1 := laid_at h "strconv.ErrRange" Rows.laid_strconv_ErrRange (by kernel_rfl) (by kernel_rfl)
    obtain ⟨ms, hi⟩ := hIs
    obtain ⟨tp, p, h2⟩ := iface_laid (g := 2) (ti := 87) h1 (by kernel_rfl) (by kernel_rfl) hi
    exact varP_of h2 ⟨tp, p, rfl⟩
theorem laidOut : laidOutB Tryd.prog = true := by kernel_rfl
theorem own : ownKnob Tryd.prog.godebug = none := by kernel_rfl
section
variable {H : Type} {enc : TypeId × Value → H}
theorem trodAll_five {W : World} {base : Nat} {sp : Nat → Bool} {held : Bool} {t0 t1 t2 t3 t4 : TypeId} {args : Array Value} {ds : List (DataW H)} {ps : List MemPlace} (h : DataW.TrodAll enc Tryd.prog W base sp held [t0, t1, t2, t3, t4] args.toList ds ps) :
    ∃ v0 v1 v2 v3 v4 d0 d1 d2 d3 d4 p0 p1 p2 p3 p4, args = #[v0, v1, v2, v3, v4] ∧ ds = [d0, d1, d2, d3, d4] ∧ DataW.Trod enc Tryd.prog W base sp held t0 v0 d0 p0 ∧ DataW.Trod enc Tryd.prog W base sp held t1 v1 d1 p1 ∧ DataW.Trod enc Tryd.prog W base sp held t2 v2 d2 p2 ∧ DataW.Trod enc Tryd.prog W base sp held t3 v3 d3 p3 ∧ DataW.Trod enc Tryd.prog W base sp held t4 v4 d4 p4 := by
  obtain ⟨v0, l0, d0, s0, p0, q0, hargs, rfl, rfl, h0, r0⟩ := trodAll_cons h
  obtain ⟨v1, l1, d1, s1, p1, q1, rfl, rfl, rfl, h1, r1⟩ := trodAll_cons r0
  obtain ⟨v2, l2, d2, s2, p2, q2, rfl, rfl, rfl, h2, r2⟩ := trodAll_cons r1
  obtain ⟨v3, l3, d3, s3, p3, q3, rfl, rfl, rfl, h3, r3⟩ := trodAll_cons r2
  obtain ⟨v4, l4, d4, s4, p4, q4, rfl, rfl, rfl, h4, r4⟩ := trodAll_cons r3
  obtain ⟨rfl, rfl, rfl⟩ := trodAll_nil r4
  exact ⟨v0, v1, v2, v3, v4, d0, d1, d2, d3, d4, p0, p1, p2, p3, p4, by cases args; simp_all, rfl, h0, h1, h2, h3, h4⟩
theorem trodAll_below {W W' : World} (hb : Below W.heap.size W W') (ts : List TypeId) : ∀ {vs : List Value} {ds : List (DataW H)} {ps : List MemPlace}, (ts.all fun t => Tryd.prog.readableRec t && decide (t < Tryd.prog.types.size)) = true → DataW.TrodAll enc Tryd.prog W 0 (fun _ => true) true ts vs ds ps → (∀ x ∈ ps, x.block < W.heap.size) → DataW.TrodAll enc Tryd.prog W' 0 (fun b => decide (b < W.heap.size)) true ts vs ds ps := by
  induction ts with
  | nil => intro vs ds ps _ h _; cases vs <;> cases ds <;> first | exact h | exact h.elim
  | cons t ts ih =>
    intro vs ds ps hr h hlt
    cases vs with
    | nil => exact h.elim
    | cons v vs =>
      cases ds with
      | nil => exact h.elim
      | cons d ds =>
        obtain ⟨p, q, h1, h2, h3⟩ := h
        rw [List.all_cons, Bool.and_eq_true, Bool.and_eq_true, decide_eq_true_eq] at hr
        refine ⟨p, q, Below.trod laidOut hr.1.1 hr.1.2 h1 hb fun x hx => hlt x ?_, ih hr.2 h2 fun x hx => hlt x ?_, h3⟩
        · rw [h3]; exact List.mem_append_left _ hx
        · rw [h3]; exact List.mem_append_right _ hx
/-- What a law's function does, out of its contract. -/
theorem calls_of_fn {W : World} {f : FuncId} {args : Array Value} (h : Fn Tryd.prog f args.toList (Fact.above (Hp.all W)) fun v _ => v = .bool true) : Calls Tryd.prog f args W fun e W' => e = .returned (.bool true) ∧ Below W.heap.size W W' := by
  have h1 := h (Hp.all W) W (Hp.all_in W) (Hp.le_refl _)
  rw [Array.toArray_toList] at h1
  refine h1.mono fun e W' hq => ?_
  cases e with
  | returned v =>
    obtain ⟨G, s', hv, hg⟩ := hq
    exact ⟨by rw [hv], hg.below⟩
  | panicked c => exact hq.elim
  | outgrown => exact hq.elim
/-- A law lifted. -/
theorem law_lifted {f : FuncId} {fn : Func} {s : ChangeSpec} (os : Os) (started : os.Started) (noInit : Tryd.prog.inits.idxOf? f = none) (hfn : Tryd.prog.funcs[f]? = some fn) (hv : s.vars = []) (hres : fn.resultTypes = #[4])
    (hts : (fn.params.toList.all fun t => Tryd.prog.readableRec t && decide (t < Tryd.prog.types.size)) = true)
    (hs : ∀ ds : List (DataW H), ds.length = fn.params.toList.length → s.fn H ds = { results := [.lit (.bool true)], args := ds })
    (args0 : Array Value)
    (hok : Input.okWideB Tryd.prog ((World.laidAll Tryd.prog os lst).forCall (fun _ _ => 0) ⟨#[], args0, []⟩) f ⟨#[], args0, []⟩ = true)
    (hpre : s.preB enc Tryd.prog fn [] false ((World.laidAll Tryd.prog os lst).forCall (fun _ _ => 0) ⟨#[], args0, []⟩).memory args0 8 = true)
    (hsz : s.sizedB enc Tryd.prog fn false ((World.laidAll Tryd.prog os lst).forCall (fun _ _ => 0) ⟨#[], args0, []⟩).memory args0 8 = true)
    (hshp : ((World.laidAll Tryd.prog os lst).forCall (fun _ _ => 0) ⟨#[], args0, []⟩).Shaped Tryd.prog)
    (hlaid : laidMetH Tryd.prog lst ((World.laidAll Tryd.prog os lst).forCall (fun _ _ => 0) ⟨#[], args0, []⟩).memory)
    (core : ∀ (W : World) (args : Array Value) (ds : List (DataW H)) (p : List MemPlace), libF.p (Hp.all W) → (∀ (j : Nat) t v, fn.params[j]? = some t → args[j]? = some v → ∃ base, Value.okWide Tryd.prog W .any base t v) → DataW.TrodAll enc Tryd.prog W 0 (fun _ => true) true fn.params.toList args.toList ds p → Fn Tryd.prog f args.toList (Fact.above (Hp.all W)) fun v _ => v = .bool true) :
    ReturnsInHanded {} Tryd.checked os f .any (fun w args => (s.pre enc Tryd.prog fn [] false w args ∧ laidMetH Tryd.prog lst w) ∧ sizedMet enc Tryd.prog fn (OpenSpec.ofChange s) false w args) (s.post enc Tryd.prog fn false true false false) := by
  refine returnsInHanded_of_calls (C := Tryd.checked) own started noInit (ChangeSpec.witness_shaped (enc := enc) (C := Tryd.checked) (os := os) (X := fun w _ => laidMetH Tryd.prog lst w) false (World.laidAll Tryd.prog os lst) args0 8 (World.laidAll_os _ _ _) hshp hok hpre hsz hlaid) ?_
  intro w tape i _ hshape _ hokw hpr _
  obtain ⟨_, _, _, fn', hfn', _, _, _, _, hval⟩ := hokw
  have e1 : fn' = fn := Option.some.inj (hfn'.symm.trans hfn)
  rw [e1] at hval
  obtain ⟨⟨⟨ds, gs, before, hw, hc⟩, hx⟩, hz⟩ := hpr
  have hw' := DataW.Whole.of_heap (w' := w.forCall tape i) (by rfl) hw
  have hx' : laidMetH Tryd.prog lst (w.forCall tape i) := hx.of_heap (by rfl)
  have hlt := hw'.lt
  have hW := hw'
  obtain ⟨p, q, hA, hV, rfl, _, _⟩ := hw'
  have hV' : gs = [] ∧ q = [] := by
    rw [hv] at hV
    cases gs with
    | nil => exact ⟨rfl, hV⟩
    | cons g r => exact absurd hV (by intro h; cases h)
  obtain ⟨rfl, rfl⟩ := hV'
  have hlen : ds.length = fn.params.toList.length := by
    have : ∀ {ts : List TypeId} {vs : List Value} {ds : List (DataW H)} {ps : List MemPlace}, DataW.TrodAll enc Tryd.prog (w.forCall tape i) 0 (fun _ => true) true ts vs ds ps → ds.length = ts.length := by
      intro ts
      induction ts with
      | nil => intro vs ds ps h; cases vs <;> cases ds <;> first | rfl | exact h.elim
      | cons t ts ih =>
        intro vs ds ps h
        cases vs with
        | nil => exact h.elim
        | cons v vs =>
          cases ds with
          | nil => exact h.elim
          | cons d ds =>
            obtain ⟨p, q, _, h2, _⟩ := h
            simp [ih h2]
    exact this hA
  refine (calls_of_fn (core (w.forCall tape i) i.args ds p (lib_of hx' hshape) (fun j t v h1 h2 => ⟨_, hval j t v h1 h2⟩) hA)).mono fun e W' ⟨he, hb⟩ => ?_
  subst he
  refine ChangeSpec.post_blind ?_
  have e0 : s.fn H (ds ++ []) = { results := [.lit (.bool true)], args := ds } := by rw [List.append_nil]; exact hs ds hlen
  refine ⟨ds, [], _, [], p, [], hW, ?_, ?_, ?_, hb.frame _, fun h => by cases h⟩
  · rw [e0, hres]
    exact trodAll_mk1 (shut_bool hB4 true)
  · rw [e0]
    exact trodAll_below hb _ hts hA (fun x hx => hlt x (List.mem_append_left _ hx))
  · rw [e0, hv]
    rfl
end
end Go.Proofs.YtmamodnpghlgcaaDoor
/- The law of the difference: for all segments, places and delays and every instant PlaylistsDifferLittle answers true, and its arguments read as before; no condition beyond what the row says. -/
set_option linter.unusedSimpArgs false
set_option linter.unusedVariables false
set_option maxRecDepth 100000
namespace Go.Proofs.YtmamodnpghlgcaaDoor
open Go.RowKit Go.ChangeShapes Go.WideShapes Go.ChangeAt
theorem laidW (os : Os) (args : Array Value) : laidMetH Tryd.prog lst ((World.laidAll Tryd.prog os lst).forCall (fun _ _ => 0) ⟨#[], args, []⟩).memory := by
  rw [MakeChecks.laidMetH_plain _ _ _ (by kernel_rfl)]
  exact laidMet_laidAll _ (by kernel_rfl) (by kernel_rfl)
theorem differ_lifted (os : Os) (started : os.Started) (H : Type) (enc : TypeId × Value → H) :
    ReturnsInHanded {} Tryd.checked os 6 .any (fun w args => (Rows.playlistsDifferLittleSpec.pre enc Tryd.prog Tryd.f6 [] false w args ∧ laidMetH Tryd.prog lst w) ∧ sizedMet enc Tryd.prog Tryd.f6 (OpenSpec.ofChange Rows.playlistsDifferLittleSpec) false w args) (Rows.playlistsDifferLittleSpec.post enc Tryd.prog Tryd.f6 false true false false) := by
  refine law_lifted os started (by kernel_rfl) Tryd.func6 rfl (by kernel_rfl) (by kernel_rfl) ?_ #[.slice none 0 0, .slice none 0 0, .slice none 0 0, .int .i64 0] (by kernel_rfl) (by kernel_rfl) (by kernel_rfl) (World.shaped_of_ZipB (by kernel_rfl) (by kernel_rfl)) (laidW os _) ?_
  · intro ds hlen
    change ds.length = 4 at hlen
    match ds, hlen with
    | [d1, d2, d3, d4], _ => rfl
  · intro W args ds p hlib hval hA
    rw [Tryd.params6] at hA hval
    obtain ⟨v0, v1, v2, v3, d0, d1, d2, d3, p0, p1, p2, p3, rfl, rfl, rfl, h0, h1, h2, h3⟩ := trodAll_four hA
    obtain ⟨b0, k0⟩ := hval 0 22 v0 rfl rfl
    obtain ⟨b1, k1⟩ := hval 1 46 v1 rfl rfl
    obtain ⟨b2, k2⟩ := hval 2 47 v2 rfl rfl
    obtain ⟨b3, k3⟩ := hval 3 3 v3 rfl rfl
    obtain ⟨t, rfl, _⟩ := open_int hI3 k3 h3
    obtain ⟨l, a, c, rfl, hc, _, hFl, _⟩ := segs_arg k0 h0
    obtain ⟨ps, hP, _⟩ := ints_arg k1 h1
    obtain ⟨ds, hD, hdl, _⟩ := intss_arg k2 h2
    exact differ_fn l ps ds v1 v2 t _ a c (above_to hlib) hFl hc hP hD hdl
theorem differ_holds : Rows.PlaylistsDifferLittleSaid :=
  OpenClaim.holds_of_wide 6 Tryd.f6 rfl rfl rfl rfl rfl rfl rfl ⟨rfl, rfl, rfl, rfl, rfl⟩ rfl rfl rfl rfl rfl (by kernel_rfl) Tryd.func6 (by kernel_rfl)
    (of_decide_eq_true (by kernel_rfl)) (by unfold Func.isWrapper; first | (rw [if_pos (by decide +kernel)]; kernel_rfl) | (rw [if_neg (by decide +kernel)]; exact ⟨rfl, rfl⟩))
    (fun os started H enc _ => differ_lifted os started H enc)
theorem differ_card : Rows.PlaylistsDifferLittleCardSaid :=
  Claim7.holds_tied_plain_at .later [] _ true _ true differ_holds (fun _ h => by cases h) (by kernel_rfl) (fun _ h => by cases h) playlistsDifferLittle_row_tie rfl ⟨rfl, rfl⟩ (by kernel_rfl) rfl
    (fun f fn hf hfn => by
      obtain rfl : f = 6 := Option.some.inj ((show Tryd.prog.funcNamed "weirgate/weirgatelaw43.PlaylistsDifferLittle" = some 6 by kernel_rfl).symm.trans hf) |>.symm
      obtain rfl : fn = Tryd.f6 := (Option.some.inj (Tryd.func6.symm.trans hfn)).symm
      refine ⟨by kernel_rfl, fun j t ht => ?_⟩
      have hall : (Tryd.f6.params.toList.all fun u => !Tryd.prog.wantsStandIn u) = true := by kernel_rfl
      have hm : t ∈ Tryd.f6.params.toList := Array.mem_toList_iff.2 (Array.mem_of_getElem? ht)
      have h9 : Tryd.prog.wantsStandIn t = false := by simpa using List.all_eq_true.1 hall t hm
      exact h9)
    (by kernel_rfl)
#print axioms differ_card
end Go.Proofs.YtmamodnpghlgcaaDoor
