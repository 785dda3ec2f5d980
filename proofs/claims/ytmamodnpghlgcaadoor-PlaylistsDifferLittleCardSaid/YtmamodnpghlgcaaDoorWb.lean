/- Own texts that this proof leans on, part 2: SxQ, La, Lb, Lc, Ld, Le, Lf, Lg, Lh, Li, Lj, Lk, Ll, Lm, Sx17, Sx18, Ln, Lo, Lp, Sx19, Lp2, Lq, Lr, Ls, Lt, Lu, Lv. -/
import Derived.Test.YtmamodnpghlgcaaDoorWa
import Derived.Test.YtmamodnpghlgcaaDoorRows
import Derived.KernelRfl
/- What the program says of its types and functions, as the walks ask it. Printed by qgen.py. -/
namespace Go.Proofs.YtmamodnpghlgcaaDoor
open Go.RowKit

theorem y_bq_27 : bq Tryd.prog 27 = .struct := by kernel_rfl
theorem y_bq_38 : bq Tryd.prog 38 = .array false 1 := by kernel_rfl
theorem y_bq_40 : bq Tryd.prog 40 = .struct := by kernel_rfl
theorem y_bsq_82_9 : bsq Tryd.prog 82 9 = true := by kernel_rfl
theorem y_eqy_9 : eqy Tryd.prog 9 = .str := by kernel_rfl
theorem y_eqy_22 : eqy Tryd.prog 22 = .slice true 20 := by kernel_rfl
theorem y_eqy_23 : eqy Tryd.prog 23 = .array 2 false 1 := by kernel_rfl
theorem y_eqy_28 : eqy Tryd.prog 28 = .array 3 true 3 := by kernel_rfl
theorem y_eqy_29 : eqy Tryd.prog 29 = .slice true 2 := by kernel_rfl
theorem y_eqy_38 : eqy Tryd.prog 38 = .array 16 false 1 := by kernel_rfl
theorem y_eqy_46 : eqy Tryd.prog 46 = .slice false 1 := by kernel_rfl
theorem y_eqy_47 : eqy Tryd.prog 47 = .slice false 1 := by kernel_rfl
theorem y_eqy_66 : eqy Tryd.prog 66 = .slice false 1 := by kernel_rfl
theorem y_fnOK_7 : fnOK Tryd.prog 7 = true := by kernel_rfl
theorem y_fnOK_8 : fnOK Tryd.prog 8 = true := by kernel_rfl
theorem y_fnOK_9 : fnOK Tryd.prog 9 = true := by kernel_rfl
theorem y_fnOK_10 : fnOK Tryd.prog 10 = true := by kernel_rfl
theorem y_fnOK_11 : fnOK Tryd.prog 11 = true := by kernel_rfl
theorem y_fnOK_12 : fnOK Tryd.prog 12 = true := by kernel_rfl
theorem y_fnOK_13 : fnOK Tryd.prog 13 = true := by kernel_rfl
theorem y_fnOK_14 : fnOK Tryd.prog 14 = true := by kernel_rfl
theorem y_fnOK_15 : fnOK Tryd.prog 15 = true := by kernel_rfl
theorem y_fnOK_16 : fnOK Tryd.prog 16 = true := by kernel_rfl
theorem y_fnOK_17 : fnOK Tryd.prog 17 = true := by kernel_rfl
theorem y_fnOK_18 : fnOK Tryd.prog 18 = true := by kernel_rfl
theorem y_fnOK_19 : fnOK Tryd.prog 19 = true := by kernel_rfl
theorem y_fnOK_20 : fnOK Tryd.prog 20 = true := by kernel_rfl
theorem y_fnOK_21 : fnOK Tryd.prog 21 = true := by kernel_rfl
theorem y_fnOK_22 : fnOK Tryd.prog 22 = true := by kernel_rfl
theorem y_fnOK_23 : fnOK Tryd.prog 23 = true := by kernel_rfl
theorem y_fnOK_24 : fnOK Tryd.prog 24 = true := by kernel_rfl
theorem y_fnOK_25 : fnOK Tryd.prog 25 = true := by kernel_rfl
theorem y_fnOK_26 : fnOK Tryd.prog 26 = true := by kernel_rfl
theorem y_fnOK_27 : fnOK Tryd.prog 27 = true := by kernel_rfl
theorem y_fnOK_28 : fnOK Tryd.prog 28 = true := by kernel_rfl
theorem y_fnOK_29 : fnOK Tryd.prog 29 = true := by kernel_rfl
theorem y_fnOK_30 : fnOK Tryd.prog 30 = true := by kernel_rfl
theorem y_fnOK_31 : fnOK Tryd.prog 31 = true := by kernel_rfl
theorem y_fnOK_32 : fnOK Tryd.prog 32 = true := by kernel_rfl
theorem y_fnOK_33 : fnOK Tryd.prog 33 = true := by kernel_rfl
theorem y_fnOK_34 : fnOK Tryd.prog 34 = true := by kernel_rfl
theorem y_fnOK_35 : fnOK Tryd.prog 35 = true := by kernel_rfl
theorem y_fnOK_36 : fnOK Tryd.prog 36 = true := by kernel_rfl
theorem y_fnOK_37 : fnOK Tryd.prog 37 = true := by kernel_rfl
theorem y_fnOK_38 : fnOK Tryd.prog 38 = true := by kernel_rfl
theorem y_fnOK_39 : fnOK Tryd.prog 39 = true := by kernel_rfl
theorem y_fnOK_40 : fnOK Tryd.prog 40 = true := by kernel_rfl
theorem y_fnOK_41 : fnOK Tryd.prog 41 = true := by kernel_rfl
theorem y_fnOK_43 : fnOK Tryd.prog 43 = true := by kernel_rfl
theorem y_fnOK_44 : fnOK Tryd.prog 44 = true := by kernel_rfl
theorem y_fnOK_45 : fnOK Tryd.prog 45 = true := by kernel_rfl
theorem y_fnOK_46 : fnOK Tryd.prog 46 = true := by kernel_rfl
theorem y_fnOK_47 : fnOK Tryd.prog 47 = true := by kernel_rfl
theorem y_fnOK_48 : fnOK Tryd.prog 48 = true := by kernel_rfl
theorem y_fnOK_49 : fnOK Tryd.prog 49 = true := by kernel_rfl
theorem y_fnOK_50 : fnOK Tryd.prog 50 = true := by kernel_rfl
theorem y_fnOK_51 : fnOK Tryd.prog 51 = true := by kernel_rfl
theorem y_fnOK_54 : fnOK Tryd.prog 54 = true := by kernel_rfl
theorem y_fnOK_55 : fnOK Tryd.prog 55 = true := by kernel_rfl
theorem y_fnOK_56 : fnOK Tryd.prog 56 = true := by kernel_rfl
theorem y_fq_27_0 : fq Tryd.prog 27 0 = some (0, false, 1) := by kernel_rfl
theorem y_fq_27_1 : fq Tryd.prog 27 1 = some (1, false, 1) := by kernel_rfl
theorem y_fq_27_2 : fq Tryd.prog 27 2 = some (2, false, 1) := by kernel_rfl
theorem y_fq_40_0 : fq Tryd.prog 40 0 = some (0, false, 1) := by kernel_rfl
theorem y_fq_40_1 : fq Tryd.prog 40 1 = some (1, false, 1) := by kernel_rfl
theorem y_fq_40_2 : fq Tryd.prog 40 2 = some (2, false, 1) := by kernel_rfl
theorem y_fq_40_3 : fq Tryd.prog 40 3 = some (3, true, 16) := by kernel_rfl
theorem y_fq_40_4 : fq Tryd.prog 40 4 = some (19, false, 1) := by kernel_rfl
theorem y_kq_3 : kq Tryd.prog 3 = .int .i64 := by kernel_rfl
theorem y_kq_4 : kq Tryd.prog 4 = .bool := by kernel_rfl
theorem y_kq_5 : kq Tryd.prog 5 = .int .u8 := by kernel_rfl
theorem y_kq_9 : kq Tryd.prog 9 = .str := by kernel_rfl
theorem y_kq_20 : kq Tryd.prog 20 = .iface := by kernel_rfl
theorem y_kq_22 : kq Tryd.prog 22 = .other := by kernel_rfl
theorem y_kq_31 : kq Tryd.prog 31 = .int .i64 := by kernel_rfl
theorem y_kq_40 : kq Tryd.prog 40 = .other := by kernel_rfl
theorem y_kq_82 : kq Tryd.prog 82 = .other := by kernel_rfl
theorem y_kq_87 : kq Tryd.prog 87 = .iface := by kernel_rfl
theorem y_slN_22 : slN Tryd.prog 22 = true := by kernel_rfl
theorem y_sq_22 : sq Tryd.prog 22 = some ⟨40, 20, 48, [.int .i64 0, .int .i64 0, .int .i64 0, .int .u8 0, .int .u8 0, .int .u8 0, .int .u8 0, .int .u8 0, .int .u8 0, .int .u8 0, .int .u8 0, .int .u8 0, .int .u8 0, .int .u8 0, .int .u8 0, .int .u8 0, .int .u8 0, .int .u8 0, .int .u8 0, .int .i64 0]⟩ := by kernel_rfl
theorem y_sq_29 : sq Tryd.prog 29 = some ⟨23, 2, 2, [.int .u8 0, .int .u8 0]⟩ := by kernel_rfl
theorem y_sq_46 : sq Tryd.prog 46 = some ⟨3, 1, 8, [.int .i64 0]⟩ := by kernel_rfl
theorem y_sq_47 : sq Tryd.prog 47 = some ⟨46, 1, 24, [.slice none 0 0]⟩ := by kernel_rfl
theorem y_sq_66 : sq Tryd.prog 66 = some ⟨9, 1, 16, [.string ByteArray.empty]⟩ := by kernel_rfl
theorem y_sq_82 : sq Tryd.prog 82 = some ⟨5, 1, 1, [.int .u8 0]⟩ := by kernel_rfl
theorem y_tq_3 : tq Tryd.prog 3 = some (false, 1) := by kernel_rfl
theorem y_tq_4 : tq Tryd.prog 4 = some (false, 1) := by kernel_rfl
theorem y_tq_5 : tq Tryd.prog 5 = some (false, 1) := by kernel_rfl
theorem y_tq_9 : tq Tryd.prog 9 = some (false, 1) := by kernel_rfl
theorem y_tq_22 : tq Tryd.prog 22 = some (false, 1) := by kernel_rfl
theorem y_tq_23 : tq Tryd.prog 23 = some (true, 2) := by kernel_rfl
theorem y_tq_27 : tq Tryd.prog 27 = some (true, 3) := by kernel_rfl
theorem y_tq_31 : tq Tryd.prog 31 = some (false, 1) := by kernel_rfl
theorem y_tq_38 : tq Tryd.prog 38 = some (true, 16) := by kernel_rfl
theorem y_tq_40 : tq Tryd.prog 40 = some (true, 20) := by kernel_rfl
theorem y_tq_46 : tq Tryd.prog 46 = some (false, 1) := by kernel_rfl
theorem y_tq_47 : tq Tryd.prog 47 = some (false, 1) := by kernel_rfl
theorem y_uq_22 : uq Tryd.prog 22 = true := by kernel_rfl
theorem y_uq_82 : uq Tryd.prog 82 = true := by kernel_rfl
theorem y_zq_3 : zq Tryd.prog 3 = some [.int .i64 0] := by kernel_rfl
theorem y_zq_9 : zq Tryd.prog 9 = some [.string ByteArray.empty] := by kernel_rfl
theorem y_zq_23 : zq Tryd.prog 23 = some [.int .u8 0, .int .u8 0] := by kernel_rfl
theorem y_zq_27 : zq Tryd.prog 27 = some [.int .i64 0, .slice none 0 0, .bool false] := by kernel_rfl
theorem y_zq_28 : zq Tryd.prog 28 = some [.int .i64 0, .slice none 0 0, .bool false, .int .i64 0, .slice none 0 0, .bool false, .int .i64 0, .slice none 0 0, .bool false] := by kernel_rfl
theorem y_zq_31 : zq Tryd.prog 31 = some [.int .i64 0] := by kernel_rfl
theorem y_zq_38 : zq Tryd.prog 38 = some [.int .u8 0, .int .u8 0, .int .u8 0, .int .u8 0, .int .u8 0, .int .u8 0, .int .u8 0, .int .u8 0, .int .u8 0, .int .u8 0, .int .u8 0, .int .u8 0, .int .u8 0, .int .u8 0, .int .u8 0, .int .u8 0] := by kernel_rfl
theorem y_zq_40 : zq Tryd.prog 40 = some [.int .i64 0, .int .i64 0, .int .i64 0, .int .u8 0, .int .u8 0, .int .u8 0, .int .u8 0, .int .u8 0, .int .u8 0, .int .u8 0, .int .u8 0, .int .u8 0, .int .u8 0, .int .u8 0, .int .u8 0, .int .u8 0, .int .u8 0, .int .u8 0, .int .u8 0, .int .i64 0] := by kernel_rfl
theorem y_zq_47 : zq Tryd.prog 47 = some [.slice none 0 0] := by kernel_rfl
attribute [push_cast] y_bq_27 y_bq_38 y_bq_40 y_bsq_82_9 y_eqy_9 y_eqy_22 y_eqy_23 y_eqy_28 y_eqy_29 y_eqy_38 y_eqy_46 y_eqy_47 y_eqy_66 y_fnOK_7 y_fnOK_8 y_fnOK_9 y_fnOK_10 y_fnOK_11 y_fnOK_12 y_fnOK_13 y_fnOK_14 y_fnOK_15 y_fnOK_16 y_fnOK_17 y_fnOK_18 y_fnOK_19 y_fnOK_20 y_fnOK_21 y_fnOK_22 y_fnOK_23 y_fnOK_24 y_fnOK_25 y_fnOK_26 y_fnOK_27 y_fnOK_28 y_fnOK_29 y_fnOK_30 y_fnOK_31 y_fnOK_32 y_fnOK_33 y_fnOK_34 y_fnOK_35 y_fnOK_36 y_fnOK_37 y_fnOK_38 y_fnOK_39 y_fnOK_40 y_fnOK_41 y_fnOK_43 y_fnOK_44 y_fnOK_45 y_fnOK_46 y_fnOK_47 y_fnOK_48 y_fnOK_49 y_fnOK_50 y_fnOK_51 y_fnOK_54 y_fnOK_55 y_fnOK_56 y_fq_27_0 y_fq_27_1 y_fq_27_2 y_fq_40_0 y_fq_40_1 y_fq_40_2 y_fq_40_3 y_fq_40_4 y_kq_3 y_kq_4 y_kq_5 y_kq_9 y_kq_20 y_kq_22 y_kq_31 y_kq_40 y_kq_82 y_kq_87 y_slN_22 y_sq_22 y_sq_29 y_sq_46 y_sq_47 y_sq_66 y_sq_82 y_tq_3 y_tq_4 y_tq_5 y_tq_9 y_tq_22 y_tq_23 y_tq_27 y_tq_31 y_tq_38 y_tq_40 y_tq_46 y_tq_47 y_uq_22 y_uq_82 y_zq_3 y_zq_9 y_zq_23 y_zq_27 y_zq_28 y_zq_31 y_zq_38 y_zq_40 y_zq_47
end Go.Proofs.YtmamodnpghlgcaaDoor
/- Playlists and segments as values; the smallest functions. -/
set_option linter.unusedSimpArgs false
set_option linter.unusedVariables false
set_option maxRecDepth 100000
namespace Go.Proofs.YtmamodnpghlgcaaDoor
open Go.RowKit
structure Seg where
  num : Int
  beg : Int
  len : Int
  body : Nat → Int
  size : Int
def segC (s : Seg) : List Value := [.int .i64 s.num, .int .i64 s.beg, .int .i64 s.len, .int .u8 (s.body 0), .int .u8 (s.body 1), .int .u8 (s.body 2), .int .u8 (s.body 3), .int .u8 (s.body 4), .int .u8 (s.body 5), .int .u8 (s.body 6), .int .u8 (s.body 7), .int .u8 (s.body 8), .int .u8 (s.body 9), .int .u8 (s.body 10), .int .u8 (s.body 11), .int .u8 (s.body 12), .int .u8 (s.body 13), .int .u8 (s.body 14), .int .u8 (s.body 15), .int .i64 s.size]
def segV (s : Seg) : Value := .agg (segC s).toArray
def segsC : List Seg → List Value
  | [] => []
  | s :: l => segC s ++ segsC l
theorem segC_length (s : Seg) : (segC s).length = 20 := rfl
theorem segsC_length (l : List Seg) : (segsC l).length = l.length * 20 := by
  induction l with
  | nil => rfl
  | cons s l ih => simp only [segsC, List.length_append, segC_length, ih, List.length_cons]; omega
theorem segsC_append (l m : List Seg) : segsC (l ++ m) = segsC l ++ segsC m := by
  induction l with
  | nil => rfl
  | cons s l ih => simp [segsC, ih]
theorem segsC_drop (l : List Seg) (n : Nat) : (segsC l).drop (n * 20) = segsC (l.drop n) := by
  induction n generalizing l with
  | zero => simp
  | succ n ih =>
    cases l with
    | nil => simp [segsC]
    | cons s l =>
      simp only [segsC, List.drop_succ_cons, ← ih l]
      rw [List.drop_append, segC_length, show (n + 1) * 20 - 20 = n * 20 by omega, List.drop_eq_nil_of_le (by rw [segC_length]; omega), List.nil_append]
theorem segsC_take (l : List Seg) (n : Nat) : (segsC l).take (n * 20) = segsC (l.take n) := by
  induction n generalizing l with
  | zero => simp [segsC]
  | succ n ih =>
    cases l with
    | nil => simp [segsC]
    | cons s l =>
      simp only [segsC, List.take_succ_cons, ← ih l]
      rw [List.take_append, segC_length, show (n + 1) * 20 - 20 = n * 20 by omega, List.take_of_length_le (by rw [segC_length]; omega)]
theorem segsC_get {l : List Seg} {i : Nat} {s : Seg} (h : l[i]? = some s) (j : Nat) (v : Value) (hv : (segC s)[j]? = some v) : (segsC l)[i * 20 + j]? = some v := by
  induction l generalizing i with
  | nil => simp at h
  | cons x l ih =>
    have hj : j < 20 := by have := (List.getElem?_eq_some_iff.1 hv).1; rwa [segC_length] at this
    cases i with
    | zero =>
      simp at h
      subst h
      simp only [segsC, Nat.zero_mul, Nat.zero_add]
      rw [List.getElem?_append_left (by rw [segC_length]; omega)]; exact hv
    | succ i =>
      simp only [segsC]
      rw [List.getElem?_append_right (by rw [segC_length]; omega), segC_length, show (i + 1) * 20 + j - 20 = i * 20 + j by omega]
      exact ih (by simpa using h)
/-- A segment out of a row. -/
theorem loadSeg {n : Nat} {F : Fact} {a : Option Addr} {l : List Seg} {k : SV → Prop} {j : Int} (i : Nat) {s : Seg} (h : F.to (rowF a (segsC l))) (hi : l[i]? = some s) (hj : j = (i : Int)) (hn : n = 20) (hk : k (.v (segV s))) : loadF (some (true, n)) F ((a.getD default).add (j.toNat * 20)) k := by
  subst hj
  rw [Int.toNat_natCast]
  exact loadF_agg (segC s) h (by rw [hn]; rfl) (by omega) (fun j v hv => segsC_get hi j v hv) hk
theorem loadSegC {n : Nat} {F : Fact} {a : Option Addr} {l : List Seg} {k : SV → Prop} {j : Int} {o : Nat} (i : Nat) {s : Seg} (h : F.to (rowF a (segsC l))) (hi : l[i]? = some s) (hj : j = (i : Int)) (ho : o < 20) (hk : k (.v ((idx (segC s) o).getD undef))) : loadF (some (false, n)) F (((a.getD default).add (j.toNat * 20)).add o) k := by
  subst hj
  rw [Int.toNat_natCast, Addr.add_add]
  have hv : (segC s)[o]? = some ((idx (segC s) o).getD undef) := by
    rw [idx_eq, List.getElem?_eq_getElem (by rw [segC_length]; exact ho), Option.getD_some]
  exact loadF_one _ h (segsC_get hi o _ hv) hk
structure Pl where
  first : Int
  l : List Seg
  done : Bool
def plV (f : Int) (a : Option Addr) (n c : Nat) (d : Bool) : Value := .agg #[.int .i64 f, .slice a n c, .bool d]
/-- A value is a playlist. -/
def isPl (p : Pl) (F : Fact) (v : Value) : Prop := ∃ a c, v = plV p.first a p.l.length c p.done ∧ p.l.length ≤ c ∧ F.to (rowF a (segsC p.l))
/-- No number of it is so great that a sum would not fit. -/
structure Pl.Ok (p : Pl) : Prop where
  len : p.l.length < 1000000
  f0 : -1152921504606846976 ≤ p.first
  f1 : p.first ≤ 1152921504606846976
def Seg.Ok (s : Seg) : Prop := (-1152921504606846976 ≤ s.num ∧ s.num ≤ 1152921504606846976) ∧ (-1152921504606846976 ≤ s.beg ∧ s.beg ≤ 1152921504606846976) ∧ (-1152921504606846976 ≤ s.len ∧ s.len ≤ 1152921504606846976)
def Seg.fin (s : Seg) : Int := s.beg + s.len
theorem end_fn (s : Seg) (hr : -9223372036854775808 ≤ s.beg + s.len ∧ s.beg + s.len ≤ 9223372036854775807) (F : Fact) : Fn Tryd.prog 40 [segV s] F fun v _ => v = .int .i64 s.fin := by
  refine Fn.of_body Tryd.func40 rfl (Nat.le_of_ble_eq_true rfl) (Nat.le_of_ble_eq_true rfl) (by kernel_rfl) ?_
  refine SC.seqN [1] [.l 1] fun K hK => SC.region ?_
  simp -implicitDefEqProofs only [push_cast, ↓reduceIte, Nat.reduceEqDiff, Nat.reduceAdd, Nat.reduceMul, Nat.reduceSub, Nat.reduceLeDiff, Nat.reduceLT, reduceCtorEq, segV]
  refine hK _ ?_
  refine SC.seqN [2] [] fun K hK => SC.region ?_
  simp -implicitDefEqProofs only [push_cast, ↓reduceIte, Nat.reduceEqDiff, Nat.reduceAdd, Nat.reduceMul, Nat.reduceSub, Nat.reduceLeDiff, Nat.reduceLT, reduceCtorEq, segC]
  refine ⟨hr, hK _ ?_⟩
  refine SC.ret ?_
  simp -implicitDefEqProofs only [push_cast, ↓reduceIte, Nat.reduceEqDiff, Nat.reduceAdd, Nat.reduceMul, Nat.reduceSub, Nat.reduceLeDiff, Nat.reduceLT, reduceCtorEq, Tryd.f40, Seg.fin]
def Pl.next (p : Pl) : Int := p.first + p.l.length
theorem next_fn (p : Pl) (v : Value) (F : Fact) (hp : isPl p F v) (hk : p.Ok) : Fn Tryd.prog 13 [v] F fun v _ => v = .int .i64 p.next := by
  obtain ⟨a, c, rfl, hc, hF⟩ := hp
  refine Fn.of_body Tryd.func13 rfl (Nat.le_of_ble_eq_true rfl) (Nat.le_of_ble_eq_true rfl) (by kernel_rfl) ?_
  refine SC.seqN [1] [.l 1] fun K hK1 => SC.region ?_
  simp -implicitDefEqProofs only [push_cast, ↓reduceIte, Nat.reduceEqDiff, Nat.reduceAdd, Nat.reduceMul, Nat.reduceSub, Nat.reduceLeDiff, Nat.reduceLT, reduceCtorEq, plV]
  refine hK1 _ ?_
  refine SC.seqN [2] [.l 1] fun K hK2 => SC.region ?_
  simp -implicitDefEqProofs only [push_cast, ↓reduceIte, Nat.reduceEqDiff, Nat.reduceAdd, Nat.reduceMul, Nat.reduceSub, Nat.reduceLeDiff, Nat.reduceLT, reduceCtorEq]
  refine ⟨by have := hk.len; have := hk.f0; have := hk.f1; omega, ?_⟩
  refine hK2 _ ?_
  refine SC.ret ?_
  simp -implicitDefEqProofs only [push_cast, ↓reduceIte, Nat.reduceEqDiff, Nat.reduceAdd, Nat.reduceMul, Nat.reduceSub, Nat.reduceLeDiff, Nat.reduceLT, reduceCtorEq, Tryd.f13, Pl.next]
def Pl.edge (p : Pl) : Int := match p.l.getLast? with | none => 0 | some s => s.fin
theorem edge_fn (p : Pl) (v : Value) (F : Fact) (hp : isPl p F v) (hk : p.Ok) (hs : ∀ s ∈ p.l, s.Ok) : Fn Tryd.prog 19 [v] F fun v _ => v = .int .i64 p.edge := by
  obtain ⟨a, c, rfl, hc, hF⟩ := hp
  refine Fn.of_body Tryd.func19 rfl (Nat.le_of_ble_eq_true rfl) (Nat.le_of_ble_eq_true rfl) (by kernel_rfl) ?_
  refine SC.seqN [1] [.l 1] fun K hK1 => SC.region ?_
  simp -implicitDefEqProofs only [push_cast, ↓reduceIte, Nat.reduceEqDiff, Nat.reduceAdd, Nat.reduceMul, Nat.reduceSub, Nat.reduceLeDiff, Nat.reduceLT, reduceCtorEq, plV]
  refine hK1 _ ?_
  refine SC.seqN [1] [.l 1] fun K hK2 => ?_
  refine SC.seqN [1, 6] [.l 1] fun K hK3 => SC.region ?_
  simp -implicitDefEqProofs only [push_cast, ↓reduceIte, Nat.reduceEqDiff, Nat.reduceAdd, Nat.reduceMul, Nat.reduceSub, Nat.reduceLeDiff, Nat.reduceLT, reduceCtorEq]
  refine hK3 _ ?_
  refine SC.cond ?_
  simp -implicitDefEqProofs only [push_cast, ↓reduceIte, Nat.reduceEqDiff, Nat.reduceAdd, Nat.reduceMul, Nat.reduceSub, Nat.reduceLeDiff, Nat.reduceLT, reduceCtorEq]
  refine ⟨fun h => ?_, fun h => ?_⟩
  · skip
    refine SC.seqN [2] [.l 1] fun K hK4 => SC.region ?_
    simp -implicitDefEqProofs only [push_cast, ↓reduceIte, Nat.reduceEqDiff, Nat.reduceAdd, Nat.reduceMul, Nat.reduceSub, Nat.reduceLeDiff, Nat.reduceLT, reduceCtorEq]
    refine hK4 _ ?_
    refine SC.ret ?_
    simp -implicitDefEqProofs only [push_cast, ↓reduceIte, Nat.reduceEqDiff, Nat.reduceAdd, Nat.reduceMul, Nat.reduceSub, Nat.reduceLeDiff, Nat.reduceLT, reduceCtorEq, Tryd.f19]
    have hn : p.l = [] := List.eq_nil_of_length_eq_zero (by simpa using h)
    simp [Pl.edge, hn]
  · skip
    refine SC.skip ?_
    simp -implicitDefEqProofs only [push_cast, ↓reduceIte, Nat.reduceEqDiff, Nat.reduceAdd, Nat.reduceMul, Nat.reduceSub, Nat.reduceLeDiff, Nat.reduceLT, reduceCtorEq]
    refine hK2 _ ?_
    refine SC.seqN [2] [.l 1] fun K hK5 => SC.region ?_
    simp -implicitDefEqProofs only [push_cast, ↓reduceIte, Nat.reduceEqDiff, Nat.reduceAdd, Nat.reduceMul, Nat.reduceSub, Nat.reduceLeDiff, Nat.reduceLT, reduceCtorEq]
    have hne : p.l ≠ [] := by intro hn; simp [hn] at h
    have h0 : 0 < p.l.length := List.length_pos_iff.2 hne
    have hl : p.l[p.l.length - 1]? = some (p.l.getLast hne) := by rw [← List.getLast?_eq_getElem?, List.getLast?_eq_some_getLast hne]
    have hsk := hs _ (List.getLast_mem hne)
    have hlen := hk.len
    refine ⟨by omega, by omega, rowF_some hF (by intro hn; have := segsC_length p.l; rw [hn] at this; simp at this; omega), ?_⟩
    refine loadSeg (p.l.length - 1) hF hl (by omega) rfl ?_
    simp -implicitDefEqProofs only [push_cast, ↓reduceIte, Nat.reduceEqDiff, Nat.reduceAdd, Nat.reduceMul, Nat.reduceSub, Nat.reduceLeDiff, Nat.reduceLT, reduceCtorEq]
    refine callL_fn0 (end_fn (p.l.getLast hne) (by unfold Seg.Ok at hsk; omega) F) rfl (fun _ h => h) fun v G hv => ?_
    subst hv
    simp -implicitDefEqProofs only [push_cast, ↓reduceIte, Nat.reduceEqDiff, Nat.reduceAdd, Nat.reduceMul, Nat.reduceSub, Nat.reduceLeDiff, Nat.reduceLT, reduceCtorEq]
    refine hK5 _ ?_
    refine SC.ret ?_
    simp -implicitDefEqProofs only [push_cast, ↓reduceIte, Nat.reduceEqDiff, Nat.reduceAdd, Nat.reduceMul, Nat.reduceSub, Nat.reduceLeDiff, Nat.reduceLT, reduceCtorEq, Tryd.f19]
    simp [Pl.edge, List.getLast?_eq_some_getLast hne]
end Go.Proofs.YtmamodnpghlgcaaDoor
/- cut, stream, Valid. -/
set_option linter.unusedSimpArgs false
set_option linter.unusedVariables false
set_option maxRecDepth 100000
namespace Go.Proofs.YtmamodnpghlgcaaDoor
open Go.RowKit
def Pl.cut (p : Pl) (w : Int) : Pl := let m := ((p.l.length : Int) - w).toNat; ⟨p.first + m, p.l.drop m, p.done⟩
theorem cut_fn (p : Pl) (v : Value) (w : Int) (F : Fact) (hp : isPl p F v) (hk : p.Ok) (hw : 0 ≤ w ∧ w ≤ 1000000) : Fn Tryd.prog 29 [v, .int .i64 w] F fun v G => isPl (p.cut w) G v := by
  obtain ⟨a, c, rfl, hc, hF⟩ := hp
  refine Fn.of_body Tryd.func29 rfl (Nat.le_of_ble_eq_true rfl) (Nat.le_of_ble_eq_true rfl) (by kernel_rfl) ?_
  refine SC.seqN [1, 2, 4] [.l 2, .l 4] fun K hK1 => SC.region ?_
  simp -implicitDefEqProofs only [push_cast, ↓reduceIte, Nat.reduceEqDiff, Nat.reduceAdd, Nat.reduceMul, Nat.reduceSub, Nat.reduceLeDiff, Nat.reduceLT, reduceCtorEq, plV]
  refine hK1 _ ?_
  refine SC.seqN [2, 4, 5] [.l 2, .l 4] fun K hK2 => SC.region ?_
  simp -implicitDefEqProofs only [push_cast, ↓reduceIte, Nat.reduceEqDiff, Nat.reduceAdd, Nat.reduceMul, Nat.reduceSub, Nat.reduceLeDiff, Nat.reduceLT, reduceCtorEq]
  have hlen := hk.len
  have hf0 := hk.f0
  have hf1 := hk.f1
  refine ⟨by omega, hK2 _ ?_⟩
  refine SC.seqN [2, 4] [.l 2, .l 4] fun K hK3 => SC.drawn (.take 0 (.take 2 (.take 4 (.take 6 (.fork 1 (.take 3 (.fork 5 (.take 7 (.take 8 (.fork 9 (.take 10 (.fork 11 (.done) (.stop))) (.stop)))) (.stop))) (.fork 5 (.take 7 (.fork 1 (.take 3 (.take 8 (.fork 9 (.take 10 (.fork 11 (.done) (.stop))) (.stop)))) (.stop))) (.stop))))))) (by kernel_rfl) (by kernel_rfl) (fun _ _ h => h) ?_
  simp -implicitDefEqProofs only [push_cast, ↓reduceIte, Nat.reduceEqDiff, Nat.reduceAdd, Nat.reduceMul, Nat.reduceSub, Nat.reduceLeDiff, Nat.reduceLT, reduceCtorEq]
  refine (fun h => ⟨⟨by omega, by omega, h⟩, by omega, by omega, h⟩ : K _ → _) ?_
  refine hK3 _ ?_
  refine SC.seqN [4] [.l 2, .l 4] fun K hK4 => SC.region ?_
  simp -implicitDefEqProofs only [push_cast, ↓reduceIte, Nat.reduceEqDiff, Nat.reduceAdd, Nat.reduceMul, Nat.reduceSub, Nat.reduceLeDiff, Nat.reduceLT, reduceCtorEq]
  refine hK4 _ ?_
  refine SC.ret ?_
  simp -implicitDefEqProofs only [push_cast, ↓reduceIte, Nat.reduceEqDiff, Nat.reduceAdd, Nat.reduceMul, Nat.reduceSub, Nat.reduceLeDiff, Nat.reduceLT, reduceCtorEq, Tryd.f29]
  have hm : (max 0 ((p.l.length : Int) - w)).toNat = ((p.l.length : Int) - w).toNat := by omega
  have hmz : max 0 ((p.l.length : Int) - w) = (((p.l.length : Int) - w).toNat : Int) := by omega
  have hll : p.l.length - ((p.l.length : Int) - w).toNat = (p.l.drop ((p.l.length : Int) - w).toNat).length := by rw [List.length_drop]
  refine ⟨slA a ((p.l.length : Int) - w).toNat c 20, c - ((p.l.length : Int) - w).toNat, ?_, ?_, ?_⟩
  · simp only [plV, Pl.cut, hm, ← hll, ← hmz]
  · simp only [Pl.cut, List.length_drop]; omega
  · simp only [Pl.cut]
    rw [← segsC_drop]
    exact rowF_drop hF _ (by rw [segsC_length]; omega)
end Go.Proofs.YtmamodnpghlgcaaDoor
/- right, stream, Valid. -/
set_option linter.unusedSimpArgs false
set_option linter.unusedVariables false
set_option maxRecDepth 100000
set_option maxHeartbeats 4000000
namespace Go.Proofs.YtmamodnpghlgcaaDoor
open Go.RowKit
def rightB (s : Seg) : Bool := decide (0 ≤ s.num) && decide (s.num ≤ 1099511627776) && decide (0 ≤ s.beg) && decide (s.beg ≤ 1099511627776) && decide (1 ≤ s.len) && decide (s.len ≤ 60000) && decide (0 ≤ s.size) && decide (s.size ≤ 1099511627776)
theorem right_fn (s : Seg) (F : Fact) : Fn Tryd.prog 48 [segV s] F fun v _ => v = .bool (rightB s) := by
  refine Fn.of_body Tryd.func48 rfl (Nat.le_of_ble_eq_true rfl) (Nat.le_of_ble_eq_true rfl) (by kernel_rfl) ?_
  refine SC.seqN [1] [.l 1] fun K hK1 => SC.region ?_
  simp -implicitDefEqProofs only [push_cast, ↓reduceIte, Nat.reduceEqDiff, Nat.reduceAdd, Nat.reduceMul, Nat.reduceSub, Nat.reduceLeDiff, Nat.reduceLT, reduceCtorEq, segV, segC]
  refine hK1 _ ?_
  refine SC.seqN [2] [] fun K hK2 => SC.region ?_
  simp -implicitDefEqProofs only [push_cast, ↓reduceIte, Nat.reduceEqDiff, Nat.reduceAdd, Nat.reduceMul, Nat.reduceSub, Nat.reduceLeDiff, Nat.reduceLT, reduceCtorEq]
  have key : K ⟨[(2, SV.q (rightB s))], [], F⟩ := by
    refine hK2 _ ?_
    refine SC.ret ?_
    simp -implicitDefEqProofs only [push_cast, ↓reduceIte, Nat.reduceEqDiff, Nat.reduceAdd, Nat.reduceMul, Nat.reduceSub, Nat.reduceLeDiff, Nat.reduceLT, reduceCtorEq, Tryd.f48, SV.q]
  repeat' (first | refine And.intro ?_ ?_ | intro h)
  all_goals (simpa [rightB, SV.q, *] using key)

def okB (l : List Seg) : Nat → Bool
  | 0 => match l[0]? with | some s => rightB s | none => true
  | j + 1 => match l[j]?, l[j + 1]? with | some p, some s => rightB s && decide (s.num = p.num + 1) && decide (s.beg = p.fin) | _, _ => true
theorem okB_pos {l : List Seg} {i : Nat} (h0 : 0 < i) (hi : i < l.length) : okB l i = (rightB l[i] && decide (l[i].num = l[i - 1].num + 1) && decide (l[i].beg = l[i - 1].fin)) := by
  cases i with
  | zero => omega
  | succ j => simp [okB, List.getElem?_eq_getElem hi, List.getElem?_eq_getElem (show j < l.length by omega)]
theorem okB_zero {l : List Seg} (hi : 0 < l.length) : okB l 0 = rightB l[0] := by simp [okB, List.getElem?_eq_getElem hi]
theorem okB_right {l : List Seg} {i : Nat} (hi : i < l.length) (h : rightB l[i] = false) : okB l i = false := by
  rcases Nat.eq_zero_or_pos i with h0 | h0
  · subst h0; rw [okB_zero hi]; exact h
  · rw [okB_pos h0 hi, h]; rfl
theorem okB_get {l : List Seg} {i : Nat} (hi : i < l.length) (h : okB l i = true) : rightB l[i] = true := by
  cases hr : rightB l[i] with
  | true => rfl
  | false => rw [okB_right hi hr] at h; cases h
def streamB (l : List Seg) : Bool := (List.range l.length).all (okB l) && decide (l.length ≤ 1000)
theorem stream_fn (l : List Seg) (a : Option Addr) (c : Nat) (F : Fact) (hF : F.to (rowF a (segsC l))) (hl : l.length < 1000000) : Fn Tryd.prog 30 [.slice a l.length c] F fun v _ => v = .bool (streamB l) := by
  refine Fn.of_body Tryd.func30 rfl (Nat.le_of_ble_eq_true rfl) (Nat.le_of_ble_eq_true rfl) (by kernel_rfl) ?_
  refine SC.seqN [0] [] fun K hK1 => SC.region ?_
  simp -implicitDefEqProofs only [push_cast, ↓reduceIte, Nat.reduceEqDiff, Nat.reduceAdd, Nat.reduceMul, Nat.reduceSub, Nat.reduceLeDiff, Nat.reduceLT, reduceCtorEq]
  refine hK1 _ ?_
  refine SC.seqN [0] [] fun K hK2 => ?_
  refine SC.seqN [0, 5, 6, 7] [] fun K hK3 => SC.region ?_
  simp -implicitDefEqProofs only [push_cast, ↓reduceIte, Nat.reduceEqDiff, Nat.reduceAdd, Nat.reduceMul, Nat.reduceSub, Nat.reduceLeDiff, Nat.reduceLT, reduceCtorEq]
  refine hK3 _ ?_
  refine SC.block ?_
  refine SC.loop (fun i : Nat => ⟨[(0, .v (.slice a l.length c)), (5, .v (.slice a l.length c)), (6, .v (.int .i64 l.length)), (7, .v (.int .i64 i))], [], F⟩) (fun i => i ≤ l.length ∧ ∀ j, j < i → okB l j = true) (fun i => l.length - i) 0 (Le.refl _) ⟨Nat.zero_le _, fun j hj => absurd hj (Nat.not_lt_zero j)⟩ fun i hx => ?_
  refine SC.seqN [0, 5, 6, 7, 8] [] fun K hK4 => SC.region ?_
  simp -implicitDefEqProofs only [push_cast, ↓reduceIte, Nat.reduceEqDiff, Nat.reduceAdd, Nat.reduceMul, Nat.reduceSub, Nat.reduceLeDiff, Nat.reduceLT, reduceCtorEq]
  refine hK4 _ ?_
  refine SC.seqN [0, 5, 6, 7] [] fun K hK5 => ?_
  refine SC.cond ?_
  simp -implicitDefEqProofs only [push_cast, ↓reduceIte, Nat.reduceEqDiff, Nat.reduceAdd, Nat.reduceMul, Nat.reduceSub, Nat.reduceLeDiff, Nat.reduceLT, reduceCtorEq]
  refine ⟨fun h => ?_, fun h => ?_⟩
  · skip
    refine SC.skip ?_
    simp -implicitDefEqProofs only [push_cast, ↓reduceIte, Nat.reduceEqDiff, Nat.reduceAdd, Nat.reduceMul, Nat.reduceSub, Nat.reduceLeDiff, Nat.reduceLT, reduceCtorEq]
    refine hK5 _ ?_
    refine SC.seqN [0, 5, 6, 7] [] fun K hK6 => ?_
    refine SC.block ?_
    refine SC.seqN [0, 3, 4, 5, 6, 7] [.l 4] fun K hK7 => SC.region ?_
    simp -implicitDefEqProofs only [push_cast, ↓reduceIte, Nat.reduceEqDiff, Nat.reduceAdd, Nat.reduceMul, Nat.reduceSub, Nat.reduceLeDiff, Nat.reduceLT, reduceCtorEq]
    have hil : i < l.length := by simpa using h
    have hs : l[i]? = some l[i] := List.getElem?_eq_getElem hil
    have hne : segsC l ≠ [] := by intro hn; have := segsC_length l; rw [hn] at this; simp at this; omega
    refine ⟨by omega, rowF_some hF hne, loadSeg i hF hs rfl rfl ?_⟩
    simp -implicitDefEqProofs only [push_cast, ↓reduceIte, Nat.reduceEqDiff, Nat.reduceAdd, Nat.reduceMul, Nat.reduceSub, Nat.reduceLeDiff, Nat.reduceLT, reduceCtorEq, segV, segC]
    refine hK7 _ ?_
    refine SC.seqN [0, 5, 6, 7, 41] [] fun K hK8 => SC.drawn (.fork 0 (.fork 1 (.take 2 (.take 3 (.take 4 (.take 5 (.take 6 (.take 7 (.take 9 (.take 10 (.take 11 (.take 12 (.take 13 (.fork 8 (.fork 14 (.take 15 (.take 16 (.take 17 (.take 18 (.take 20 (.take 21 (.take 22 (.take 23 (.fork 19 (.fork 24 (.fork 25 (.take 26 (.take 27 (.take 28 (.take 29 (.done))))) (.stop)) (.stop)) (.fork 24 (.fork 19 (.fork 25 (.take 26 (.take 27 (.take 28 (.take 29 (.done))))) (.stop)) (.fork 25 (.fork 19 (.take 26 (.take 27 (.take 28 (.take 29 (.done))))) (.stop)) (.stop))) (.stop))))))))))) (.stop)) (.fork 14 (.take 15 (.fork 8 (.take 16 (.take 17 (.take 18 (.take 20 (.take 21 (.take 22 (.take 23 (.fork 19 (.fork 24 (.fork 25 (.take 26 (.take 27 (.take 28 (.take 29 (.done))))) (.stop)) (.stop)) (.fork 24 (.fork 19 (.fork 25 (.take 26 (.take 27 (.take 28 (.take 29 (.done))))) (.stop)) (.fork 25 (.fork 19 (.take 26 (.take 27 (.take 28 (.take 29 (.done))))) (.stop)) (.stop))) (.stop)))))))))) (.stop))) (.stop)))))))))))))) (.stop)) (.stop)) (by kernel_rfl) (by kernel_rfl) (fun _ _ h => h) ?_
    simp -implicitDefEqProofs only [push_cast, ↓reduceIte, Nat.reduceEqDiff, Nat.reduceAdd, Nat.reduceMul, Nat.reduceSub, Nat.reduceLeDiff, Nat.reduceLT, reduceCtorEq]
    have hp : l[i - 1]? = some l[i - 1] := List.getElem?_eq_getElem (by omega)
    have key : ∀ b, b = (!okB l i) → K ⟨[(0, .v (.slice a l.length c)), (5, .v (.slice a l.length c)), (6, .v (.int .i64 l.length)), (7, .v (.int .i64 i)), (41, .v (.bool b))], [], F⟩ := by
      intro b hb
      subst hb
      refine hK8 _ ?_
      refine SC.cond ?_
      simp -implicitDefEqProofs only [push_cast, ↓reduceIte, Nat.reduceEqDiff, Nat.reduceAdd, Nat.reduceMul, Nat.reduceSub, Nat.reduceLeDiff, Nat.reduceLT, reduceCtorEq]
      refine ⟨fun h => ?_, fun h => ?_⟩
      · skip
        refine SC.seqN [2] [] fun K hK9 => SC.region ?_
        simp -implicitDefEqProofs only [push_cast, ↓reduceIte, Nat.reduceEqDiff, Nat.reduceAdd, Nat.reduceMul, Nat.reduceSub, Nat.reduceLeDiff, Nat.reduceLT, reduceCtorEq]
        refine hK9 _ ?_
        refine SC.ret ?_
        simp -implicitDefEqProofs only [push_cast, ↓reduceIte, Nat.reduceEqDiff, Nat.reduceAdd, Nat.reduceMul, Nat.reduceSub, Nat.reduceLeDiff, Nat.reduceLT, reduceCtorEq, Tryd.f30]
        have hok : okB l i = false := by simpa using h
        have hall : (List.range l.length).all (okB l) = false := by
          rw [List.all_eq_false]
          exact ⟨i, List.mem_range.2 hil, by simp [hok]⟩
        simp [streamB, hall]
      · skip
        refine SC.skip ?_
        simp -implicitDefEqProofs only [push_cast, ↓reduceIte, Nat.reduceEqDiff, Nat.reduceAdd, Nat.reduceMul, Nat.reduceSub, Nat.reduceLeDiff, Nat.reduceLT, reduceCtorEq]
        refine hK6 _ ?_
        refine SC.region ?_
        simp -implicitDefEqProofs only [push_cast, ↓reduceIte, Nat.reduceEqDiff, Nat.reduceAdd, Nat.reduceMul, Nat.reduceSub, Nat.reduceLeDiff, Nat.reduceLT, reduceCtorEq]
        have hok : okB l i = true := by simpa using h
        refine ⟨by omega, i + 1, ⟨by omega, fun j hj => ?_⟩, by omega, Le.trans (Le.norm _ [0, 5, 6, 7] []) ?_⟩
        · rcases Nat.lt_succ_iff_lt_or_eq.1 hj with hj | rfl
          · exact hx.2 j hj
          · exact hok
        · simp -implicitDefEqProofs only [push_cast, ↓reduceIte, Nat.reduceEqDiff, Nat.reduceAdd, Nat.reduceMul, Nat.reduceSub, Nat.reduceLeDiff, Nat.reduceLT, reduceCtorEq]
          exact Le.refl _
    clear hK1 hK2 hK3 hK4 hK5 hK6 hK7 hK8
    refine callL_fn0 (right_fn l[i] F) rfl (fun _ h => h) fun v G hv => ?_
    subst hv
    cases hr : rightB l[i] with
    | false =>
      simp -implicitDefEqProofs only [push_cast, ↓reduceIte, Nat.reduceEqDiff, Nat.reduceAdd, Nat.reduceMul, Nat.reduceSub, Nat.reduceLeDiff, Nat.reduceLT, reduceCtorEq]
      exact key _ (by rw [okB_right hil hr]; rfl)
    | true =>
      have hb : rightB l[i - 1] = true := by
        rcases Nat.eq_zero_or_pos i with h0 | h0
        · subst h0; exact hr
        · exact okB_get (by omega) (hx.2 (i - 1) (by omega))
      simp only [rightB, Bool.and_eq_true, decide_eq_true_eq] at hb
      simp -implicitDefEqProofs only [push_cast, ↓reduceIte, Nat.reduceEqDiff, Nat.reduceAdd, Nat.reduceMul, Nat.reduceSub, Nat.reduceLeDiff, Nat.reduceLT, reduceCtorEq]
      repeat' (first
        | (with_reducible refine And.intro (rowF_some hF hne) ?_)
        | (with_reducible refine loadSegC (i - 1) hF hp ?_ ?_ ?_
           · omega
           · omega
           simp -implicitDefEqProofs only [push_cast, ↓reduceIte, Nat.reduceEqDiff, Nat.reduceAdd, Nat.reduceMul, Nat.reduceSub, Nat.reduceLeDiff, Nat.reduceLT, reduceCtorEq, segC])
        | (with_reducible refine loadSeg (i - 1) hF hp ?_ ?_ ?_
           · omega
           · rfl
           simp -implicitDefEqProofs only [push_cast, ↓reduceIte, Nat.reduceEqDiff, Nat.reduceAdd, Nat.reduceMul, Nat.reduceSub, Nat.reduceLeDiff, Nat.reduceLT, reduceCtorEq])
        | (with_reducible refine callL_fn0 (end_fn l[i - 1] (by omega) F) ?_ (fun _ h => h) ?_
           · rfl
           intro v G hv
           subst hv
           simp -implicitDefEqProofs only [push_cast, ↓reduceIte, Nat.reduceEqDiff, Nat.reduceAdd, Nat.reduceMul, Nat.reduceSub, Nat.reduceLeDiff, Nat.reduceLT, reduceCtorEq])
        | (with_reducible refine And.intro (by omega) ?_)
        | (with_reducible refine And.intro ?_ ?_)
        | intro h)
      all_goals refine key _ ?_
      all_goals (rcases Nat.eq_zero_or_pos i with h0 | h0)
      all_goals (first | omega | (subst h0; simp [okB, hs, hr]; done) | (rw [okB_pos h0 hil, hr]; simp [*]; done))
  · skip
    refine SC.exit ?_
    simp -implicitDefEqProofs only [push_cast, ↓reduceIte, Nat.reduceEqDiff, Nat.reduceAdd, Nat.reduceMul, Nat.reduceSub, Nat.reduceLeDiff, Nat.reduceLT, reduceCtorEq]
    refine hK2 _ ?_
    refine SC.seqN [2] [] fun K hK10 => SC.region ?_
    simp -implicitDefEqProofs only [push_cast, ↓reduceIte, Nat.reduceEqDiff, Nat.reduceAdd, Nat.reduceMul, Nat.reduceSub, Nat.reduceLeDiff, Nat.reduceLT, reduceCtorEq]
    refine hK10 _ ?_
    refine SC.ret ?_
    simp -implicitDefEqProofs only [push_cast, ↓reduceIte, Nat.reduceEqDiff, Nat.reduceAdd, Nat.reduceMul, Nat.reduceSub, Nat.reduceLeDiff, Nat.reduceLT, reduceCtorEq, Tryd.f30]
    have hi : i = l.length := by omega
    subst hi
    have hall : (List.range l.length).all (okB l) = true := by simpa using hx.2
    simp [streamB, hall]
    omega
end Go.Proofs.YtmamodnpghlgcaaDoor
/- Valid; the specification's Right, Next, wide. -/
set_option linter.unusedSimpArgs false
set_option linter.unusedVariables false
set_option maxRecDepth 100000
set_option maxHeartbeats 4000000
namespace Go.Proofs.YtmamodnpghlgcaaDoor
open Go.RowKit
theorem segsC_ne {l : List Seg} (h : 0 < l.length) : segsC l ≠ [] := by intro hn; have := segsC_length l; rw [hn] at this; simp at this; omega
def headB (p : Pl) : Bool := match p.l[0]? with | none => true | some s => decide (s.num = p.first)
theorem headB_pos {p : Pl} (h : 0 < p.l.length) : headB p = decide (p.l[0].num = p.first) := by simp [headB, List.getElem?_eq_getElem h]
theorem headB_zero {p : Pl} (h : (p.l.length : Int) = 0) : headB p = true := by
  have : p.l = [] := List.eq_nil_of_length_eq_zero (by omega)
  simp [headB, this]
def validB (p : Pl) : Bool := decide (0 ≤ p.first) && decide (p.first ≤ 1099511627776) && decide ((p.l.length : Int) ≤ 100) && headB p && streamB p.l
theorem valid_fn (p : Pl) (v : Value) (F : Fact) (hp : isPl p F v) (hl : p.l.length < 1000000) : Fn Tryd.prog 12 [v] F fun v _ => v = .bool (validB p) := by
  obtain ⟨a, c, rfl, hc, hF⟩ := hp
  refine Fn.of_body Tryd.func12 rfl (Nat.le_of_ble_eq_true rfl) (Nat.le_of_ble_eq_true rfl) (by kernel_rfl) ?_
  refine SC.seqN [1] [.l 1] fun K hK1 => SC.region ?_
  simp -implicitDefEqProofs only [push_cast, ↓reduceIte, Nat.reduceEqDiff, Nat.reduceAdd, Nat.reduceMul, Nat.reduceSub, Nat.reduceLeDiff, Nat.reduceLT, reduceCtorEq, plV]
  refine hK1 _ ?_
  refine SC.seqN [2] [] fun K hK2 => SC.drawn (.take 0 (.fork 1 (.take 2 (.take 3 (.take 4 (.fork 5 (.take 6 (.take 7 (.take 8 (.take 9 (.fork 10 (.take 11 (.take 12 (.take 13 (.take 14 (.take 15 (.fork 16 (.take 17 (.take 18 (.take 19 (.take 20 (.take 25 (.fork 21 (.take 22 (.take 23 (.fork 24 (.fork 26 (.take 27 (.take 28 (.take 29 (.take 30 (.take 31 (.fork 32 (.fork 33 (.take 34 (.take 35 (.done))) (.stop)) (.stop))))))) (.stop)) (.fork 26 (.fork 24 (.take 27 (.take 28 (.take 29 (.take 30 (.take 31 (.fork 32 (.fork 33 (.take 34 (.take 35 (.done))) (.stop)) (.stop))))))) (.stop)) (.stop))))) (.fork 26 (.fork 21 (.take 22 (.take 23 (.fork 24 (.take 27 (.take 28 (.take 29 (.take 30 (.take 31 (.fork 32 (.fork 33 (.take 34 (.take 35 (.done))) (.stop)) (.stop))))))) (.stop)))) (.stop)) (.stop)))))))) (.stop))))))) (.stop)))))) (.stop))))) (.stop))) (by kernel_rfl) (by kernel_rfl) (fun _ _ h => h) ?_
  simp -implicitDefEqProofs only [push_cast, ↓reduceIte, Nat.reduceEqDiff, Nat.reduceAdd, Nat.reduceMul, Nat.reduceSub, Nat.reduceLeDiff, Nat.reduceLT, reduceCtorEq]
  have key : ∀ b, b = validB p → K ⟨[(2, .v (.bool b))], [], F⟩ := by
    intro b hb
    subst hb
    refine hK2 _ ?_
    refine SC.ret ?_
    simp -implicitDefEqProofs only [push_cast, ↓reduceIte, Nat.reduceEqDiff, Nat.reduceAdd, Nat.reduceMul, Nat.reduceSub, Nat.reduceLeDiff, Nat.reduceLT, reduceCtorEq, Tryd.f12]
  clear hK1 hK2
  repeat' (first
    | (with_reducible refine And.intro (rowF_some hF (segsC_ne (by omega))) ?_)
    | (with_reducible refine loadSegC 0 hF (List.getElem?_eq_getElem (by omega)) ?_ ?_ ?_
       · omega
       · omega
       simp -implicitDefEqProofs only [push_cast, ↓reduceIte, Nat.reduceEqDiff, Nat.reduceAdd, Nat.reduceMul, Nat.reduceSub, Nat.reduceLeDiff, Nat.reduceLT, reduceCtorEq, segC])
    | (with_reducible refine callL_fn0 (stream_fn p.l a c F hF hl) ?_ (fun _ h => h) ?_
       · rfl
       intro v G hv
       subst hv
       simp -implicitDefEqProofs only [push_cast, ↓reduceIte, Nat.reduceEqDiff, Nat.reduceAdd, Nat.reduceMul, Nat.reduceSub, Nat.reduceLeDiff, Nat.reduceLT, reduceCtorEq])
    | (with_reducible refine And.intro (by omega) ?_)
    | (with_reducible refine And.intro ?_ ?_)
    | intro h)
  all_goals refine key _ ?_
  all_goals clear key hF
  all_goals (first
    | (rw [validB, headB_pos (by omega)]; simp only [decide_true, decide_false, Bool.and_true, Bool.true_and, Bool.and_false, Bool.false_and, *]; done)
    | (rw [validB, headB_zero (by omega)]; simp [*]; done)
    | (rw [validB]; simp only [decide_true, decide_false, Bool.and_true, Bool.true_and, Bool.and_false, Bool.false_and, *]; done)
    | skip)

theorem refRight_fn (s : Seg) (F : Fact) : Fn Tryd.prog 23 [segV s] F fun v _ => v = .bool (rightB s) := by
  refine Fn.of_body Tryd.func23 rfl (Nat.le_of_ble_eq_true rfl) (Nat.le_of_ble_eq_true rfl) (by kernel_rfl) ?_
  refine SC.seqN [1] [.l 1] fun K hK1 => SC.region ?_
  simp -implicitDefEqProofs only [push_cast, ↓reduceIte, Nat.reduceEqDiff, Nat.reduceAdd, Nat.reduceMul, Nat.reduceSub, Nat.reduceLeDiff, Nat.reduceLT, reduceCtorEq, segV, segC]
  refine hK1 _ ?_
  refine SC.seqN [2] [] fun K hK2 => SC.region ?_
  simp -implicitDefEqProofs only [push_cast, ↓reduceIte, Nat.reduceEqDiff, Nat.reduceAdd, Nat.reduceMul, Nat.reduceSub, Nat.reduceLeDiff, Nat.reduceLT, reduceCtorEq]
  have key : K ⟨[(2, SV.q (rightB s))], [], F⟩ := by
    refine hK2 _ ?_
    refine SC.ret ?_
    simp -implicitDefEqProofs only [push_cast, ↓reduceIte, Nat.reduceEqDiff, Nat.reduceAdd, Nat.reduceMul, Nat.reduceSub, Nat.reduceLeDiff, Nat.reduceLT, reduceCtorEq, Tryd.f23, SV.q]
  repeat' (first | refine And.intro ?_ ?_ | intro h)
  all_goals (simpa [rightB, SV.q, *] using key)

end Go.Proofs.YtmamodnpghlgcaaDoor
/- The specification's Stream, Next; Lag, Gap. -/
set_option linter.unusedSimpArgs false
set_option linter.unusedVariables false
set_option maxRecDepth 100000
set_option maxHeartbeats 4000000
namespace Go.Proofs.YtmamodnpghlgcaaDoor
open Go.RowKit
theorem refStream_fn (l : List Seg) (a : Option Addr) (c : Nat) (F : Fact) (hF : F.to (rowF a (segsC l))) (hl : l.length < 1000000) : Fn Tryd.prog 7 [.slice a l.length c] F fun v _ => v = .bool (streamB l) := by
  refine Fn.of_body Tryd.func7 rfl (Nat.le_of_ble_eq_true rfl) (Nat.le_of_ble_eq_true rfl) (by kernel_rfl) ?_
  refine SC.seqN [0] [] fun K hK1 => SC.region ?_
  simp -implicitDefEqProofs only [push_cast, ↓reduceIte, Nat.reduceEqDiff, Nat.reduceAdd, Nat.reduceMul, Nat.reduceSub, Nat.reduceLeDiff, Nat.reduceLT, reduceCtorEq]
  refine hK1 _ ?_
  refine SC.seqN [0] [] fun K hK2 => ?_
  refine SC.seqN [0, 3] [] fun K hK3 => SC.region ?_
  simp -implicitDefEqProofs only [push_cast, ↓reduceIte, Nat.reduceEqDiff, Nat.reduceAdd, Nat.reduceMul, Nat.reduceSub, Nat.reduceLeDiff, Nat.reduceLT, reduceCtorEq]
  refine hK3 _ ?_
  refine SC.block ?_
  refine SC.loop (fun i : Nat => ⟨[(0, .v (.slice a l.length c)), (3, .v (.int .i64 i))], [], F⟩) (fun i => i ≤ l.length ∧ ∀ j, j < i → okB l j = true) (fun i => l.length - i) 0 (Le.refl _) ⟨Nat.zero_le _, fun j hj => absurd hj (Nat.not_lt_zero j)⟩ fun i hx => ?_
  refine SC.seqN [0, 3] [] fun K hK4 => ?_
  refine SC.seqN [0, 3, 8] [] fun K hK5 => SC.region ?_
  simp -implicitDefEqProofs only [push_cast, ↓reduceIte, Nat.reduceEqDiff, Nat.reduceAdd, Nat.reduceMul, Nat.reduceSub, Nat.reduceLeDiff, Nat.reduceLT, reduceCtorEq]
  refine hK5 _ ?_
  refine SC.cond ?_
  simp -implicitDefEqProofs only [push_cast, ↓reduceIte, Nat.reduceEqDiff, Nat.reduceAdd, Nat.reduceMul, Nat.reduceSub, Nat.reduceLeDiff, Nat.reduceLT, reduceCtorEq]
  refine ⟨fun h => ?_, fun h => ?_⟩
  · skip
    refine SC.skip ?_
    simp -implicitDefEqProofs only [push_cast, ↓reduceIte, Nat.reduceEqDiff, Nat.reduceAdd, Nat.reduceMul, Nat.reduceSub, Nat.reduceLeDiff, Nat.reduceLT, reduceCtorEq]
    refine hK4 _ ?_
    refine SC.seqN [0, 3] [] fun K hK6 => ?_
    refine SC.block ?_
    refine SC.seqN [0, 3, 4] [] fun K hK7 => SC.region ?_
    simp -implicitDefEqProofs only [push_cast, ↓reduceIte, Nat.reduceEqDiff, Nat.reduceAdd, Nat.reduceMul, Nat.reduceSub, Nat.reduceLeDiff, Nat.reduceLT, reduceCtorEq]
    have hil : i < l.length := by simpa using h
    have hs : l[i]? = some l[i] := List.getElem?_eq_getElem hil
    have hne : segsC l ≠ [] := segsC_ne (by omega)
    refine ⟨by omega, rowF_some hF hne, loadSeg i hF hs rfl rfl ?_⟩
    simp -implicitDefEqProofs only [push_cast, ↓reduceIte, Nat.reduceEqDiff, Nat.reduceAdd, Nat.reduceMul, Nat.reduceSub, Nat.reduceLeDiff, Nat.reduceLT, reduceCtorEq]
    refine callL_fn0 (refRight_fn l[i] F) rfl (fun _ h => h) fun v G hv => ?_
    subst hv
    simp -implicitDefEqProofs only [push_cast, ↓reduceIte, Nat.reduceEqDiff, Nat.reduceAdd, Nat.reduceMul, Nat.reduceSub, Nat.reduceLeDiff, Nat.reduceLT, reduceCtorEq]
    refine hK7 _ ?_
    refine SC.seqN [0, 3, 57] [] fun K hK8 => SC.drawn (.take 0 (.take 1 (.take 2 (.take 3 (.take 4 (.take 5 (.take 6 (.take 7 (.take 8 (.take 9 (.take 11 (.take 12 (.take 13 (.take 14 (.take 15 (.fork 10 (.fork 16 (.take 17 (.take 18 (.take 19 (.take 20 (.take 21 (.take 22 (.take 23 (.take 25 (.take 26 (.take 27 (.take 28 (.take 29 (.take 31 (.take 32 (.take 33 (.take 34 (.take 35 (.fork 24 (.fork 30 (.fork 36 (.take 37 (.take 38 (.take 39 (.take 40 (.take 41 (.done)))))) (.stop)) (.fork 36 (.fork 30 (.take 37 (.take 38 (.take 39 (.take 40 (.take 41 (.done)))))) (.stop)) (.stop))) (.fork 30 (.fork 24 (.fork 36 (.take 37 (.take 38 (.take 39 (.take 40 (.take 41 (.done)))))) (.stop)) (.fork 36 (.take 37 (.fork 24 (.take 38 (.take 39 (.take 40 (.take 41 (.done))))) (.stop))) (.stop))) (.fork 36 (.fork 24 (.fork 30 (.take 37 (.take 38 (.take 39 (.take 40 (.take 41 (.done)))))) (.stop)) (.fork 30 (.take 37 (.fork 24 (.take 38 (.take 39 (.take 40 (.take 41 (.done))))) (.stop))) (.stop))) (.stop))))))))))))))))))))) (.stop)) (.fork 16 (.take 17 (.fork 10 (.take 18 (.take 19 (.take 20 (.take 21 (.take 22 (.take 23 (.take 25 (.take 26 (.take 27 (.take 28 (.take 29 (.take 31 (.take 32 (.take 33 (.take 34 (.take 35 (.fork 24 (.fork 30 (.fork 36 (.take 37 (.take 38 (.take 39 (.take 40 (.take 41 (.done)))))) (.stop)) (.fork 36 (.fork 30 (.take 37 (.take 38 (.take 39 (.take 40 (.take 41 (.done)))))) (.stop)) (.stop))) (.fork 30 (.fork 24 (.fork 36 (.take 37 (.take 38 (.take 39 (.take 40 (.take 41 (.done)))))) (.stop)) (.fork 36 (.take 37 (.fork 24 (.take 38 (.take 39 (.take 40 (.take 41 (.done))))) (.stop))) (.stop))) (.fork 36 (.fork 24 (.fork 30 (.take 37 (.take 38 (.take 39 (.take 40 (.take 41 (.done)))))) (.stop)) (.fork 30 (.take 37 (.fork 24 (.take 38 (.take 39 (.take 40 (.take 41 (.done))))) (.stop))) (.stop))) (.stop)))))))))))))))))))) (.stop))) (.stop)))))))))))))))))) (by kernel_rfl) (by kernel_rfl) (fun _ _ h => h) ?_
    have hp : l[i - 1]? = some l[i - 1] := List.getElem?_eq_getElem (by omega)
    have key : ∀ b, b = (!okB l i) → K ⟨[(0, .v (.slice a l.length c)), (3, .v (.int .i64 i)), (57, .v (.bool b))], [], F⟩ := by
      intro b hb
      subst hb
      refine hK8 _ ?_
      refine SC.cond ?_
      simp -implicitDefEqProofs only [push_cast, ↓reduceIte, Nat.reduceEqDiff, Nat.reduceAdd, Nat.reduceMul, Nat.reduceSub, Nat.reduceLeDiff, Nat.reduceLT, reduceCtorEq]
      refine ⟨fun h => ?_, fun h => ?_⟩
      · skip
        refine SC.seqN [2] [] fun K hK9 => SC.region ?_
        simp -implicitDefEqProofs only [push_cast, ↓reduceIte, Nat.reduceEqDiff, Nat.reduceAdd, Nat.reduceMul, Nat.reduceSub, Nat.reduceLeDiff, Nat.reduceLT, reduceCtorEq]
        refine hK9 _ ?_
        refine SC.ret ?_
        simp -implicitDefEqProofs only [push_cast, ↓reduceIte, Nat.reduceEqDiff, Nat.reduceAdd, Nat.reduceMul, Nat.reduceSub, Nat.reduceLeDiff, Nat.reduceLT, reduceCtorEq, Tryd.f7]
        have hok : okB l i = false := by simpa using h
        have hall : (List.range l.length).all (okB l) = false := by
          rw [List.all_eq_false]
          exact ⟨i, List.mem_range.2 hil, by simp [hok]⟩
        simp [streamB, hall]
      · skip
        refine SC.skip ?_
        simp -implicitDefEqProofs only [push_cast, ↓reduceIte, Nat.reduceEqDiff, Nat.reduceAdd, Nat.reduceMul, Nat.reduceSub, Nat.reduceLeDiff, Nat.reduceLT, reduceCtorEq]
        refine hK6 _ ?_
        refine SC.region ?_
        simp -implicitDefEqProofs only [push_cast, ↓reduceIte, Nat.reduceEqDiff, Nat.reduceAdd, Nat.reduceMul, Nat.reduceSub, Nat.reduceLeDiff, Nat.reduceLT, reduceCtorEq]
        have hok : okB l i = true := by simpa using h
        refine ⟨by omega, i + 1, ⟨by omega, fun j hj => ?_⟩, by omega, Le.trans (Le.norm _ [0, 3] []) ?_⟩
        · rcases Nat.lt_succ_iff_lt_or_eq.1 hj with hj | rfl
          · exact hx.2 j hj
          · exact hok
        · simp -implicitDefEqProofs only [push_cast, ↓reduceIte, Nat.reduceEqDiff, Nat.reduceAdd, Nat.reduceMul, Nat.reduceSub, Nat.reduceLeDiff, Nat.reduceLT, reduceCtorEq]
          exact Le.refl _
    clear hK1 hK2 hK3 hK4 hK5 hK6 hK7 hK8
    cases hr : rightB l[i] with
    | false =>
      simp -implicitDefEqProofs only [push_cast, ↓reduceIte, Nat.reduceEqDiff, Nat.reduceAdd, Nat.reduceMul, Nat.reduceSub, Nat.reduceLeDiff, Nat.reduceLT, reduceCtorEq]
      exact key _ (by rw [okB_right hil hr]; rfl)
    | true =>
      have hb : rightB l[i - 1] = true := by
        rcases Nat.eq_zero_or_pos i with h0 | h0
        · subst h0; exact hr
        · exact okB_get (by omega) (hx.2 (i - 1) (by omega))
      simp only [rightB, Bool.and_eq_true, decide_eq_true_eq] at hb
      simp -implicitDefEqProofs only [push_cast, ↓reduceIte, Nat.reduceEqDiff, Nat.reduceAdd, Nat.reduceMul, Nat.reduceSub, Nat.reduceLeDiff, Nat.reduceLT, reduceCtorEq]
      repeat' (first
        | (with_reducible refine And.intro (rowF_some hF hne) ?_)
        | (with_reducible refine loadSegC (i - 1) hF hp ?_ ?_ ?_
           · omega
           · omega
           simp -implicitDefEqProofs only [push_cast, ↓reduceIte, Nat.reduceEqDiff, Nat.reduceAdd, Nat.reduceMul, Nat.reduceSub, Nat.reduceLeDiff, Nat.reduceLT, reduceCtorEq, segC])
        | (with_reducible refine loadSegC i hF hs ?_ ?_ ?_
           · omega
           · omega
           simp -implicitDefEqProofs only [push_cast, ↓reduceIte, Nat.reduceEqDiff, Nat.reduceAdd, Nat.reduceMul, Nat.reduceSub, Nat.reduceLeDiff, Nat.reduceLT, reduceCtorEq, segC])
        | (with_reducible refine And.intro (by omega) ?_)
        | (with_reducible refine And.intro ?_ ?_)
        | intro h)
      all_goals refine key _ ?_
      all_goals (rcases Nat.eq_zero_or_pos i with h0 | h0)
      all_goals (first | omega | (subst h0; simp [okB, hs, hr]; done) | (rw [okB_pos h0 hil, hr]; simp [Seg.fin, *]; done) | (rw [okB_pos h0 hil, hr]; simp [Seg.fin, *]; exact decide_eq_decide.2 Iff.rfl))
  · skip
    refine SC.exit ?_
    simp -implicitDefEqProofs only [push_cast, ↓reduceIte, Nat.reduceEqDiff, Nat.reduceAdd, Nat.reduceMul, Nat.reduceSub, Nat.reduceLeDiff, Nat.reduceLT, reduceCtorEq]
    refine hK2 _ ?_
    refine SC.seqN [2] [] fun K hK10 => SC.region ?_
    simp -implicitDefEqProofs only [push_cast, ↓reduceIte, Nat.reduceEqDiff, Nat.reduceAdd, Nat.reduceMul, Nat.reduceSub, Nat.reduceLeDiff, Nat.reduceLT, reduceCtorEq]
    refine hK10 _ ?_
    refine SC.ret ?_
    simp -implicitDefEqProofs only [push_cast, ↓reduceIte, Nat.reduceEqDiff, Nat.reduceAdd, Nat.reduceMul, Nat.reduceSub, Nat.reduceLeDiff, Nat.reduceLT, reduceCtorEq, Tryd.f7]
    have hi : i = l.length := by omega
    subst hi
    have hall : (List.range l.length).all (okB l) = true := by simpa using hx.2
    simp [streamB, hall]
    omega
end Go.Proofs.YtmamodnpghlgcaaDoor
/- The specification's Valid, wide. -/
set_option linter.unusedSimpArgs false
set_option linter.unusedVariables false
set_option maxRecDepth 100000
set_option maxHeartbeats 4000000
namespace Go.Proofs.YtmamodnpghlgcaaDoor
open Go.RowKit
def validC (p : Pl) : Bool := decide (0 ≤ p.first) && decide (p.first ≤ 1099511627776) && decide ((p.l.length : Int) ≤ 100) && headB p
theorem validB_eq (p : Pl) : validB p = (validC p && streamB p.l) := rfl
def wideB (n : Int) : Bool := decide (1 ≤ n) && decide (n ≤ 100)
end Go.Proofs.YtmamodnpghlgcaaDoor
/- Two segments compared. -/
set_option linter.unusedSimpArgs false
set_option linter.unusedVariables false
set_option maxRecDepth 100000
set_option maxHeartbeats 4000000
namespace Go.Proofs.YtmamodnpghlgcaaDoor
open Go.RowKit
def segEqB (s t : Seg) : Bool := (s.num == t.num) && ((s.beg == t.beg) && ((s.len == t.len) && (((s.body 0 == t.body 0) && ((s.body 1 == t.body 1) && ((s.body 2 == t.body 2) && ((s.body 3 == t.body 3) && ((s.body 4 == t.body 4) && ((s.body 5 == t.body 5) && ((s.body 6 == t.body 6) && ((s.body 7 == t.body 7) && ((s.body 8 == t.body 8) && ((s.body 9 == t.body 9) && ((s.body 10 == t.body 10) && ((s.body 11 == t.body 11) && ((s.body 12 == t.body 12) && ((s.body 13 == t.body 13) && ((s.body 14 == t.body 14) && ((s.body 15 == t.body 15) && true)))))))))))))))) && ((s.size == t.size) && true))))
theorem segEqB_iff (s t : Seg) : segEqB s t = true ↔ segC s = segC t := by
  simp only [segEqB, segC, Bool.and_eq_true, beq_iff_eq, List.cons.injEq, Value.int.injEq, true_and, and_true, and_assoc]
theorem hI3 : Tryd.prog.underlying 3 = some (.int .i64) := by kernel_rfl
theorem hI5 : Tryd.prog.underlying 5 = some (.int .u8) := by kernel_rfl
theorem tq3 : tq Tryd.prog 3 = some (false, 1) := by kernel_rfl
theorem tq5 : tq Tryd.prog 5 = some (false, 1) := by kernel_rfl
theorem tq55 : tq Tryd.prog 38 = some (true, 16) := by kernel_rfl
theorem hU55 : Tryd.prog.underlying 38 = some (.array 16 5) := by kernel_rfl
theorem hC5 : Tryd.prog.cellsOf 5 = 1 := by kernel_rfl
theorem hS57 : Tryd.prog.underlying 40 = some (.struct (Tryd.prog.fieldsOf 40)) := by kernel_rfl
theorem hp57 : Tryd.prog.stoodInHeld 40 = false := by kernel_rfl
theorem hg57 : Tryd.prog.eqGuardType Tryd.prog.depth 40 = false := by kernel_rfl
theorem hf57 : fieldsL Tryd.prog 40 = [(false, 3, 0), (false, 3, 1), (false, 3, 2), (false, 38, 3), (false, 3, 19)] := by kernel_rfl
theorem info5 : ∃ i, Tryd.prog.info? 5 = some i := by
  cases h : Tryd.prog.info? 5 with
  | some i => exact ⟨i, rfl⟩
  | none =>
    have : (Tryd.prog.info? 5).isSome = true := by kernel_rfl
    rw [h] at this; cases this
def bodyA (s : Seg) : Array Value := #[.int .u8 (s.body 0), .int .u8 (s.body 1), .int .u8 (s.body 2), .int .u8 (s.body 3), .int .u8 (s.body 4), .int .u8 (s.body 5), .int .u8 (s.body 6), .int .u8 (s.body 7), .int .u8 (s.body 8), .int .u8 (s.body 9), .int .u8 (s.body 10), .int .u8 (s.body 11), .int .u8 (s.body 12), .int .u8 (s.body 13), .int .u8 (s.body 14), .int .u8 (s.body 15)]
theorem bodyA_ext (s : Seg) : (segC s).toArray.extract 3 (3 + 16) = bodyA s := by kernel_rfl
theorem segEq (s t : Seg) : aggEq Tryd.prog 40 (segC s).toArray (segC t).toArray (segEqB s t) := by
  refine ⟨fun w => ?_, hg57⟩
  obtain ⟨i5, hi5⟩ := info5
  refine eqA_run hS57 hp57 hf57 ?_
  refine eqFL_int tq3 hI3 (d := 9998) (a := s.num) (b := t.num) (by kernel_rfl) (by kernel_rfl) ?_
  refine eqFL_int tq3 hI3 (d := 9998) (a := s.beg) (b := t.beg) (by kernel_rfl) (by kernel_rfl) ?_
  refine eqFL_int tq3 hI3 (d := 9998) (a := s.len) (b := t.len) (by kernel_rfl) (by kernel_rfl) ?_
  refine eqFL_any tq55 ?_ ?_
  · rw [bodyA_ext, bodyA_ext, run_equalIn_array w 9998 _ _ hU55 hi5, hC5]
    rw [show List.range 16 = [0, 1, 2, 3, 4, 5, 6, 7, 8, 9, 10, 11, 12, 13, 14, 15] from rfl]
    refine eqI_cons (d := 9997) tq5 hI5 (a := s.body 0) (b := t.body 0) (by kernel_rfl) (by kernel_rfl) ?_
    refine eqI_cons (d := 9997) tq5 hI5 (a := s.body 1) (b := t.body 1) (by kernel_rfl) (by kernel_rfl) ?_
    refine eqI_cons (d := 9997) tq5 hI5 (a := s.body 2) (b := t.body 2) (by kernel_rfl) (by kernel_rfl) ?_
    refine eqI_cons (d := 9997) tq5 hI5 (a := s.body 3) (b := t.body 3) (by kernel_rfl) (by kernel_rfl) ?_
    refine eqI_cons (d := 9997) tq5 hI5 (a := s.body 4) (b := t.body 4) (by kernel_rfl) (by kernel_rfl) ?_
    refine eqI_cons (d := 9997) tq5 hI5 (a := s.body 5) (b := t.body 5) (by kernel_rfl) (by kernel_rfl) ?_
    refine eqI_cons (d := 9997) tq5 hI5 (a := s.body 6) (b := t.body 6) (by kernel_rfl) (by kernel_rfl) ?_
    refine eqI_cons (d := 9997) tq5 hI5 (a := s.body 7) (b := t.body 7) (by kernel_rfl) (by kernel_rfl) ?_
    refine eqI_cons (d := 9997) tq5 hI5 (a := s.body 8) (b := t.body 8) (by kernel_rfl) (by kernel_rfl) ?_
    refine eqI_cons (d := 9997) tq5 hI5 (a := s.body 9) (b := t.body 9) (by kernel_rfl) (by kernel_rfl) ?_
    refine eqI_cons (d := 9997) tq5 hI5 (a := s.body 10) (b := t.body 10) (by kernel_rfl) (by kernel_rfl) ?_
    refine eqI_cons (d := 9997) tq5 hI5 (a := s.body 11) (b := t.body 11) (by kernel_rfl) (by kernel_rfl) ?_
    refine eqI_cons (d := 9997) tq5 hI5 (a := s.body 12) (b := t.body 12) (by kernel_rfl) (by kernel_rfl) ?_
    refine eqI_cons (d := 9997) tq5 hI5 (a := s.body 13) (b := t.body 13) (by kernel_rfl) (by kernel_rfl) ?_
    refine eqI_cons (d := 9997) tq5 hI5 (a := s.body 14) (b := t.body 14) (by kernel_rfl) (by kernel_rfl) ?_
    refine eqI_cons (d := 9997) tq5 hI5 (a := s.body 15) (b := t.body 15) (by kernel_rfl) (by kernel_rfl) ?_
    exact eqI_nil
  · refine eqFL_int tq3 hI3 (d := 9998) (a := s.size) (b := t.size) (by kernel_rfl) (by kernel_rfl) ?_
    exact eqFL_nil
end Go.Proofs.YtmamodnpghlgcaaDoor
/- The specification's Same. -/
set_option linter.unusedSimpArgs false
set_option linter.unusedVariables false
set_option maxRecDepth 100000
set_option maxHeartbeats 4000000
namespace Go.Proofs.YtmamodnpghlgcaaDoor
open Go.RowKit
def eqAt (l m : List Seg) (i : Nat) : Bool := match l[i]?, m[i]? with | some s, some t => segEqB s t | _, _ => true
def sameC (p q : Pl) : Bool := decide (p.first = q.first) && (p.done == q.done) && decide ((p.l.length : Int) = q.l.length)
theorem sameC_len {p q : Pl} (h : sameC p q = true) : p.l.length = q.l.length := by
  simp only [sameC, Bool.and_eq_true, decide_eq_true_eq] at h
  omega
def sameB (p q : Pl) : Bool := sameC p q && (List.range p.l.length).all (eqAt p.l q.l)
theorem same_fn (p q : Pl) (v v' : Value) (F : Fact) (hp : isPl p F v) (hq : isPl q F v') (hl : p.l.length < 1000000) : Fn Tryd.prog 11 [v, v'] F fun v _ => v = .bool (sameB p q) := by
  obtain ⟨a, c, rfl, hc, hF⟩ := hp
  obtain ⟨a', c', rfl, hc', hF'⟩ := hq
  refine Fn.of_body Tryd.func11 rfl (Nat.le_of_ble_eq_true rfl) (Nat.le_of_ble_eq_true rfl) (by kernel_rfl) ?_
  refine SC.seqN [2, 3] [.l 2, .l 3] fun K hK1 => SC.region ?_
  simp -implicitDefEqProofs only [push_cast, ↓reduceIte, Nat.reduceEqDiff, Nat.reduceAdd, Nat.reduceMul, Nat.reduceSub, Nat.reduceLeDiff, Nat.reduceLT, reduceCtorEq, plV]
  refine hK1 _ ?_
  refine SC.seqN [2, 3] [.l 2, .l 3] fun K hK2 => ?_
  refine SC.seqN [2, 3, 26] [.l 2, .l 3] fun K hK3 => SC.region ?_
  simp -implicitDefEqProofs only [push_cast, ↓reduceIte, Nat.reduceEqDiff, Nat.reduceAdd, Nat.reduceMul, Nat.reduceSub, Nat.reduceLeDiff, Nat.reduceLT, reduceCtorEq]
  have key : ∀ b, b = (!sameC p q) → K ⟨[(2, .own (.l 2) 0), (3, .own (.l 3) 0), (26, .v (.bool b))], [(.l 2, .box [.v (.int .i64 p.first), .v (.slice a p.l.length c), .v (.bool p.done)] 27), (.l 3, .box [.v (.int .i64 q.first), .v (.slice a' q.l.length c'), .v (.bool q.done)] 27)], F⟩ := by
    intro b hb
    subst hb
    refine hK3 _ ?_
    refine SC.cond ?_
    simp -implicitDefEqProofs only [push_cast, ↓reduceIte, Nat.reduceEqDiff, Nat.reduceAdd, Nat.reduceMul, Nat.reduceSub, Nat.reduceLeDiff, Nat.reduceLT, reduceCtorEq]
    refine ⟨fun h => ?_, fun h => ?_⟩
    · skip
      refine SC.seqN [4] [] fun K hK4 => SC.region ?_
      simp -implicitDefEqProofs only [push_cast, ↓reduceIte, Nat.reduceEqDiff, Nat.reduceAdd, Nat.reduceMul, Nat.reduceSub, Nat.reduceLeDiff, Nat.reduceLT, reduceCtorEq]
      refine hK4 _ ?_
      refine SC.ret ?_
      simp -implicitDefEqProofs only [push_cast, ↓reduceIte, Nat.reduceEqDiff, Nat.reduceAdd, Nat.reduceMul, Nat.reduceSub, Nat.reduceLeDiff, Nat.reduceLT, reduceCtorEq, Tryd.f11]
      have hs : sameC p q = false := by simpa using h
      rw [sameB, hs]; rfl
    · skip
      have hsc : sameC p q = true := by simpa using h
      have hlen : p.l.length = q.l.length := sameC_len hsc
      refine SC.skip ?_
      simp -implicitDefEqProofs only [push_cast, ↓reduceIte, Nat.reduceEqDiff, Nat.reduceAdd, Nat.reduceMul, Nat.reduceSub, Nat.reduceLeDiff, Nat.reduceLT, reduceCtorEq]
      refine hK2 _ ?_
      refine SC.seqN [] [] fun K hK5 => ?_
      refine SC.seqN [2, 3, 5] [.l 2, .l 3] fun K hK6 => SC.region ?_
      simp -implicitDefEqProofs only [push_cast, ↓reduceIte, Nat.reduceEqDiff, Nat.reduceAdd, Nat.reduceMul, Nat.reduceSub, Nat.reduceLeDiff, Nat.reduceLT, reduceCtorEq]
      refine hK6 _ ?_
      refine SC.block ?_
      refine SC.loop (fun i : Nat => ⟨[(2, .own (.l 2) 0), (3, .own (.l 3) 0), (5, .v (.int .i64 i))], [(.l 2, .box [.v (.int .i64 p.first), .v (.slice a p.l.length c), .v (.bool p.done)] 27), (.l 3, .box [.v (.int .i64 q.first), .v (.slice a' q.l.length c'), .v (.bool q.done)] 27)], F⟩) (fun i => i ≤ p.l.length ∧ ∀ j, j < i → eqAt p.l q.l j = true) (fun i => p.l.length - i) 0 (Le.refl _) ⟨Nat.zero_le _, fun j hj => absurd hj (Nat.not_lt_zero j)⟩ fun i hx => ?_
      refine SC.seqN [2, 3, 5] [.l 2, .l 3] fun K hK7 => ?_
      refine SC.seqN [2, 3, 5, 31] [.l 2, .l 3] fun K hK8 => SC.region ?_
      simp -implicitDefEqProofs only [push_cast, ↓reduceIte, Nat.reduceEqDiff, Nat.reduceAdd, Nat.reduceMul, Nat.reduceSub, Nat.reduceLeDiff, Nat.reduceLT, reduceCtorEq]
      refine hK8 _ ?_
      refine SC.cond ?_
      simp -implicitDefEqProofs only [push_cast, ↓reduceIte, Nat.reduceEqDiff, Nat.reduceAdd, Nat.reduceMul, Nat.reduceSub, Nat.reduceLeDiff, Nat.reduceLT, reduceCtorEq]
      refine ⟨fun h => ?_, fun h => ?_⟩
      · skip
        refine SC.skip ?_
        simp -implicitDefEqProofs only [push_cast, ↓reduceIte, Nat.reduceEqDiff, Nat.reduceAdd, Nat.reduceMul, Nat.reduceSub, Nat.reduceLeDiff, Nat.reduceLT, reduceCtorEq]
        refine hK7 _ ?_
        refine SC.seqN [2, 3, 5] [.l 2, .l 3] fun K hK9 => ?_
        refine SC.block ?_
        refine SC.seqN [2, 3, 5, 44] [.l 2, .l 3] fun K hK10 => SC.drawn (.take 0 (.take 2 (.take 5 (.take 7 (.fork 1 (.take 3 (.fork 4 (.fork 6 (.take 8 (.fork 9 (.take 10 (.done)) (.stop))) (.stop)) (.fork 6 (.take 8 (.fork 4 (.fork 9 (.take 10 (.done)) (.stop)) (.fork 9 (.fork 4 (.take 10 (.done)) (.stop)) (.stop)))) (.stop)))) (.fork 6 (.take 8 (.fork 1 (.take 3 (.fork 4 (.fork 9 (.take 10 (.done)) (.stop)) (.fork 9 (.fork 4 (.take 10 (.done)) (.stop)) (.stop)))) (.fork 9 (.fork 1 (.take 3 (.fork 4 (.take 10 (.done)) (.stop))) (.stop)) (.stop)))) (.stop))))))) (by kernel_rfl) (by kernel_rfl) (fun _ _ h => h) ?_
        simp -implicitDefEqProofs only [push_cast, ↓reduceIte, Nat.reduceEqDiff, Nat.reduceAdd, Nat.reduceMul, Nat.reduceSub, Nat.reduceLeDiff, Nat.reduceLT, reduceCtorEq]
        have hil : i < p.l.length := by omega
        have hiq : i < q.l.length := by omega
        have hp : p.l[i]? = some p.l[i] := List.getElem?_eq_getElem hil
        have hq : q.l[i]? = some q.l[i] := List.getElem?_eq_getElem hiq
        have key2 : ∀ b, b = (!eqAt p.l q.l i) → K ⟨[(2, .own (.l 2) 0), (3, .own (.l 3) 0), (5, .v (.int .i64 i)), (44, .v (.bool b))], [(.l 2, .box [.v (.int .i64 p.first), .v (.slice a p.l.length c), .v (.bool p.done)] 27), (.l 3, .box [.v (.int .i64 q.first), .v (.slice a' q.l.length c'), .v (.bool q.done)] 27)], F⟩ := by
          intro b hb
          subst hb
          refine hK10 _ ?_
          refine SC.cond ?_
          simp -implicitDefEqProofs only [push_cast, ↓reduceIte, Nat.reduceEqDiff, Nat.reduceAdd, Nat.reduceMul, Nat.reduceSub, Nat.reduceLeDiff, Nat.reduceLT, reduceCtorEq]
          refine ⟨fun h => ?_, fun h => ?_⟩
          · skip
            refine SC.seqN [4] [] fun K hK11 => SC.region ?_
            simp -implicitDefEqProofs only [push_cast, ↓reduceIte, Nat.reduceEqDiff, Nat.reduceAdd, Nat.reduceMul, Nat.reduceSub, Nat.reduceLeDiff, Nat.reduceLT, reduceCtorEq]
            refine hK11 _ ?_
            refine SC.ret ?_
            simp -implicitDefEqProofs only [push_cast, ↓reduceIte, Nat.reduceEqDiff, Nat.reduceAdd, Nat.reduceMul, Nat.reduceSub, Nat.reduceLeDiff, Nat.reduceLT, reduceCtorEq, Tryd.f11]
            have hf : eqAt p.l q.l i = false := by simpa using h
            have hall : (List.range p.l.length).all (eqAt p.l q.l) = false := by
              rw [List.all_eq_false]
              exact ⟨i, List.mem_range.2 hil, by simp [hf]⟩
            simp [sameB, hall]
          · skip
            refine SC.skip ?_
            simp -implicitDefEqProofs only [push_cast, ↓reduceIte, Nat.reduceEqDiff, Nat.reduceAdd, Nat.reduceMul, Nat.reduceSub, Nat.reduceLeDiff, Nat.reduceLT, reduceCtorEq]
            refine hK9 _ ?_
            refine SC.region ?_
            simp -implicitDefEqProofs only [push_cast, ↓reduceIte, Nat.reduceEqDiff, Nat.reduceAdd, Nat.reduceMul, Nat.reduceSub, Nat.reduceLeDiff, Nat.reduceLT, reduceCtorEq]
            have hok : eqAt p.l q.l i = true := by simpa using h
            refine ⟨by omega, i + 1, ⟨by omega, fun j hj => ?_⟩, by omega, Le.trans (Le.norm _ [2, 3, 5] [.l 2, .l 3]) ?_⟩
            · rcases Nat.lt_succ_iff_lt_or_eq.1 hj with hj | rfl
              · exact hx.2 j hj
              · exact hok
            · simp -implicitDefEqProofs only [push_cast, ↓reduceIte, Nat.reduceEqDiff, Nat.reduceAdd, Nat.reduceMul, Nat.reduceSub, Nat.reduceLeDiff, Nat.reduceLT, reduceCtorEq]
              exact Le.refl _
        repeat' (first
          | (with_reducible refine And.intro (rowF_some hF (segsC_ne (by omega))) ?_)
          | (with_reducible refine And.intro (rowF_some hF' (segsC_ne (by omega))) ?_)
          | (with_reducible refine loadSeg i hF hp ?_ ?_ ?_
             · rfl
             · rfl
             simp -implicitDefEqProofs only [push_cast, ↓reduceIte, Nat.reduceEqDiff, Nat.reduceAdd, Nat.reduceMul, Nat.reduceSub, Nat.reduceLeDiff, Nat.reduceLT, reduceCtorEq])
          | (with_reducible refine loadSeg i hF' hq ?_ ?_ ?_
             · rfl
             · rfl
             simp -implicitDefEqProofs only [push_cast, ↓reduceIte, Nat.reduceEqDiff, Nat.reduceAdd, Nat.reduceMul, Nat.reduceSub, Nat.reduceLeDiff, Nat.reduceLT, reduceCtorEq])
          | (with_reducible refine And.intro (by omega) ?_)
          | (with_reducible refine And.intro ?_ ?_))
        all_goals (simp -implicitDefEqProofs only [push_cast, ↓reduceIte, Nat.reduceEqDiff, Nat.reduceAdd, Nat.reduceMul, Nat.reduceSub, Nat.reduceLeDiff, Nat.reduceLT, reduceCtorEq, segV]; refine ⟨_, segEq p.l[i] q.l[i], ?_⟩; simp -implicitDefEqProofs only [push_cast, ↓reduceIte, Nat.reduceEqDiff, Nat.reduceAdd, Nat.reduceMul, Nat.reduceSub, Nat.reduceLeDiff, Nat.reduceLT, reduceCtorEq]; exact key2 _ (by simp [eqAt, hp, hq]))
      · skip
        refine SC.exit ?_
        simp -implicitDefEqProofs only [push_cast, ↓reduceIte, Nat.reduceEqDiff, Nat.reduceAdd, Nat.reduceMul, Nat.reduceSub, Nat.reduceLeDiff, Nat.reduceLT, reduceCtorEq]
        refine hK5 _ ?_
        refine SC.seqN [4] [] fun K hK12 => SC.region ?_
        simp -implicitDefEqProofs only [push_cast, ↓reduceIte, Nat.reduceEqDiff, Nat.reduceAdd, Nat.reduceMul, Nat.reduceSub, Nat.reduceLeDiff, Nat.reduceLT, reduceCtorEq]
        refine hK12 _ ?_
        refine SC.ret ?_
        simp -implicitDefEqProofs only [push_cast, ↓reduceIte, Nat.reduceEqDiff, Nat.reduceAdd, Nat.reduceMul, Nat.reduceSub, Nat.reduceLeDiff, Nat.reduceLT, reduceCtorEq, Tryd.f11]
        have hi : i = p.l.length := by omega
        subst hi
        have hall : (List.range p.l.length).all (eqAt p.l q.l) = true := by simpa using hx.2
        rw [sameB, hall, hsc]; rfl
  clear hK1 hK2 hK3
  repeat' (first | refine And.intro ?_ ?_ | intro h)
  all_goals refine key _ ?_
  all_goals clear key
  all_goals (first | (simp [sameC, *]; done) | (simp_all [sameC]; done))

end Go.Proofs.YtmamodnpghlgcaaDoor
/- The specification's Edge, cut. -/
set_option linter.unusedSimpArgs false
set_option linter.unusedVariables false
set_option maxRecDepth 100000
set_option maxHeartbeats 4000000
namespace Go.Proofs.YtmamodnpghlgcaaDoor
open Go.RowKit
def refCut (p : Pl) (w : Int) : Pl := if w < (p.l.length : Int) then ⟨match p.l[((p.l.length : Int) - w).toNat]? with | some s => s.num | none => 0, p.l.drop ((p.l.length : Int) - w).toNat, p.done⟩ else p
end Go.Proofs.YtmamodnpghlgcaaDoor
/- The specification's Find. -/
set_option linter.unusedSimpArgs false
set_option linter.unusedVariables false
set_option maxRecDepth 100000
set_option maxHeartbeats 4000000
namespace Go.Proofs.YtmamodnpghlgcaaDoor
open Go.RowKit
def seg0 : Seg := ⟨0, 0, 0, fun _ => 0, 0⟩
def findM (l : List Seg) (n : Int) : Option Seg := l.find? fun s => decide (s.num = n)
theorem findM_none {l : List Seg} {n : Int} (h : ∀ (j : Nat) s, l[j]? = some s → s.num ≠ n) : findM l n = none := by
  simp only [findM, List.find?_eq_none, decide_eq_true_eq]
  intro s hs
  obtain ⟨j, hj⟩ := List.getElem?_of_mem hs
  exact h j s hj
theorem findM_some {l : List Seg} {n : Int} {i : Nat} (hi : i < l.length) (h : l[i].num = n) (hb : ∀ j (hj : j < i), l[j].num ≠ n) : findM l n = some l[i] := by
  simp only [findM, List.find?_eq_some_iff_getElem]
  exact ⟨by simpa using h, i, hi, rfl, fun j hj => by simpa using hb j hj⟩
def gotV : Option Seg → Value
  | some s => .agg (segC s ++ [Value.int .i64 0]).toArray
  | none => .agg (segC seg0 ++ [Value.int .i64 5]).toArray
end Go.Proofs.YtmamodnpghlgcaaDoor
/- slices.IndexFunc over segments. -/
set_option linter.unusedSimpArgs false
set_option linter.unusedVariables false
set_option maxRecDepth 100000
set_option maxHeartbeats 4000000
namespace Go.Proofs.YtmamodnpghlgcaaDoor
open Go.RowKit
def idxM (l : List Seg) (f : Seg → Bool) : Int := match l.findIdx? f with | some i => (i : Int) | none => -1
theorem idxM_none {l : List Seg} {f : Seg → Bool} (h : ∀ (j : Nat) s, l[j]? = some s → f s = false) : idxM l f = -1 := by
  have : l.findIdx? f = none := by
    rw [List.findIdx?_eq_none_iff]
    intro s hs
    obtain ⟨j, hj⟩ := List.getElem?_of_mem hs
    exact h j s hj
  simp [idxM, this]
theorem idxM_some {l : List Seg} {f : Seg → Bool} {i : Nat} (hi : i < l.length) (h : f l[i] = true) (hb : ∀ j (hj : j < i), f l[j] = false) : idxM l f = i := by
  have : l.findIdx? f = some i := by
    rw [List.findIdx?_eq_some_iff_getElem]
    exact ⟨hi, h, fun j hj => by simp [hb j hj]⟩
  simp [idxM, this]
theorem indexSeg_fn (l : List Seg) (a : Option Addr) (c : Nat) (g : FuncId) (caps : Array Value) (f : Seg → Bool) (F : Fact) (hF : F.to (rowF a (segsC l))) (hl : l.length < 1000000) (hok : fnOK Tryd.prog g = true) (hg : ∀ s ∈ l, Fn Tryd.prog g (segV s :: caps.toList) F fun v _ => v = .bool (f s)) :
    Fn Tryd.prog 56 [.slice a l.length c, .func (.func g) #[] caps] F fun v _ => v = .int .i64 (idxM l f) := by
  refine Fn.of_body Tryd.func56 rfl (Nat.le_of_ble_eq_true rfl) (Nat.le_of_ble_eq_true rfl) (by kernel_rfl) ?_
  refine SC.seqN [0, 1] [] fun K hK1 => SC.region ?_
  simp -implicitDefEqProofs only [push_cast, ↓reduceIte, Nat.reduceEqDiff, Nat.reduceAdd, Nat.reduceMul, Nat.reduceSub, Nat.reduceLeDiff, Nat.reduceLT, reduceCtorEq]
  refine hK1 _ ?_
  refine SC.seqN [] [] fun K hK2 => ?_
  refine SC.seqN [0, 1, 7, 8] [] fun K hK3 => SC.region ?_
  simp -implicitDefEqProofs only [push_cast, ↓reduceIte, Nat.reduceEqDiff, Nat.reduceAdd, Nat.reduceMul, Nat.reduceSub, Nat.reduceLeDiff, Nat.reduceLT, reduceCtorEq]
  refine hK3 _ ?_
  refine SC.block ?_
  refine SC.loop (fun i : Nat => ⟨[(0, .v (.slice a l.length c)), (1, .v (.func (.func g) #[] caps)), (7, .v (.int .i64 l.length)), (8, .v (.int .i64 i))], [], F⟩) (fun i => i ≤ l.length ∧ ∀ j s, j < i → l[j]? = some s → f s = false) (fun i => l.length - i) 0 (Le.refl _) ⟨Nat.zero_le _, fun j s hj => absurd hj (Nat.not_lt_zero j)⟩ fun i hx => ?_
  refine SC.seqN [0, 1, 7, 8, 9] [] fun K hK4 => SC.region ?_
  simp -implicitDefEqProofs only [push_cast, ↓reduceIte, Nat.reduceEqDiff, Nat.reduceAdd, Nat.reduceMul, Nat.reduceSub, Nat.reduceLeDiff, Nat.reduceLT, reduceCtorEq]
  refine hK4 _ ?_
  refine SC.seqN [0, 1, 7, 8] [] fun K hK5 => ?_
  refine SC.cond ?_
  simp -implicitDefEqProofs only [push_cast, ↓reduceIte, Nat.reduceEqDiff, Nat.reduceAdd, Nat.reduceMul, Nat.reduceSub, Nat.reduceLeDiff, Nat.reduceLT, reduceCtorEq]
  refine ⟨fun h => ?_, fun h => ?_⟩
  · skip
    refine SC.skip ?_
    simp -implicitDefEqProofs only [push_cast, ↓reduceIte, Nat.reduceEqDiff, Nat.reduceAdd, Nat.reduceMul, Nat.reduceSub, Nat.reduceLeDiff, Nat.reduceLT, reduceCtorEq]
    refine hK5 _ ?_
    refine SC.seqN [0, 1, 7, 8] [] fun K hK6 => ?_
    refine SC.block ?_
    refine SC.seqN [0, 1, 5, 7, 8] [] fun K hK7 => SC.region ?_
    simp -implicitDefEqProofs only [push_cast, ↓reduceIte, Nat.reduceEqDiff, Nat.reduceAdd, Nat.reduceMul, Nat.reduceSub, Nat.reduceLeDiff, Nat.reduceLT, reduceCtorEq]
    refine hK7 _ ?_
    refine SC.seqN [0, 1, 5, 7, 8, 16] [] fun K hK8 => SC.region ?_
    simp -implicitDefEqProofs only [push_cast, ↓reduceIte, Nat.reduceEqDiff, Nat.reduceAdd, Nat.reduceMul, Nat.reduceSub, Nat.reduceLeDiff, Nat.reduceLT, reduceCtorEq]
    have hil : i < l.length := by omega
    have hp : l[i]? = some l[i] := List.getElem?_eq_getElem hil
    refine ⟨by omega, rowF_some hF (segsC_ne (by omega)), loadSeg i hF hp rfl rfl ?_⟩
    simp -implicitDefEqProofs only [push_cast, ↓reduceIte, Nat.reduceEqDiff, Nat.reduceAdd, Nat.reduceMul, Nat.reduceSub, Nat.reduceLeDiff, Nat.reduceLT, reduceCtorEq]
    refine ⟨hok, callL_fn0 (hg l[i] (List.getElem_mem hil)) (by simp [vals_cons, vals_map]) (fun _ h => h) fun v G hv => ?_⟩
    subst hv
    simp -implicitDefEqProofs only [push_cast, ↓reduceIte, Nat.reduceEqDiff, Nat.reduceAdd, Nat.reduceMul, Nat.reduceSub, Nat.reduceLeDiff, Nat.reduceLT, reduceCtorEq]
    refine hK8 _ ?_
    refine SC.cond ?_
    simp -implicitDefEqProofs only [push_cast, ↓reduceIte, Nat.reduceEqDiff, Nat.reduceAdd, Nat.reduceMul, Nat.reduceSub, Nat.reduceLeDiff, Nat.reduceLT, reduceCtorEq]
    refine ⟨fun h => ?_, fun h => ?_⟩
    · skip
      refine SC.seqN [4] [] fun K hK9 => SC.region ?_
      simp -implicitDefEqProofs only [push_cast, ↓reduceIte, Nat.reduceEqDiff, Nat.reduceAdd, Nat.reduceMul, Nat.reduceSub, Nat.reduceLeDiff, Nat.reduceLT, reduceCtorEq]
      refine hK9 _ ?_
      refine SC.ret ?_
      simp -implicitDefEqProofs only [push_cast, ↓reduceIte, Nat.reduceEqDiff, Nat.reduceAdd, Nat.reduceMul, Nat.reduceSub, Nat.reduceLeDiff, Nat.reduceLT, reduceCtorEq, Tryd.f56]
      rw [idxM_some hil h fun j hj => hx.2 j _ hj (List.getElem?_eq_getElem (by omega))]
    · skip
      refine SC.skip ?_
      simp -implicitDefEqProofs only [push_cast, ↓reduceIte, Nat.reduceEqDiff, Nat.reduceAdd, Nat.reduceMul, Nat.reduceSub, Nat.reduceLeDiff, Nat.reduceLT, reduceCtorEq]
      refine hK6 _ ?_
      refine SC.region ?_
      simp -implicitDefEqProofs only [push_cast, ↓reduceIte, Nat.reduceEqDiff, Nat.reduceAdd, Nat.reduceMul, Nat.reduceSub, Nat.reduceLeDiff, Nat.reduceLT, reduceCtorEq]
      refine ⟨by omega, i + 1, ⟨by omega, fun j s hj hs => ?_⟩, by omega, Le.trans (Le.norm _ [0, 1, 7, 8] []) ?_⟩
      · rcases Nat.lt_succ_iff_lt_or_eq.1 hj with hj | rfl
        · exact hx.2 j s hj hs
        · rw [hp] at hs
          obtain rfl := Option.some.inj hs
          exact h
      · simp -implicitDefEqProofs only [push_cast, ↓reduceIte, Nat.reduceEqDiff, Nat.reduceAdd, Nat.reduceMul, Nat.reduceSub, Nat.reduceLeDiff, Nat.reduceLT, reduceCtorEq]
        exact Le.refl _
  · skip
    refine SC.exit ?_
    simp -implicitDefEqProofs only [push_cast, ↓reduceIte, Nat.reduceEqDiff, Nat.reduceAdd, Nat.reduceMul, Nat.reduceSub, Nat.reduceLeDiff, Nat.reduceLT, reduceCtorEq]
    refine hK2 _ ?_
    refine SC.seqN [4] [] fun K hK10 => SC.region ?_
    simp -implicitDefEqProofs only [push_cast, ↓reduceIte, Nat.reduceEqDiff, Nat.reduceAdd, Nat.reduceMul, Nat.reduceSub, Nat.reduceLeDiff, Nat.reduceLT, reduceCtorEq]
    refine hK10 _ ?_
    refine SC.ret ?_
    simp -implicitDefEqProofs only [push_cast, ↓reduceIte, Nat.reduceEqDiff, Nat.reduceAdd, Nat.reduceMul, Nat.reduceSub, Nat.reduceLeDiff, Nat.reduceLT, reduceCtorEq, Tryd.f56]
    rw [idxM_none fun j s hs => hx.2 j s (by have := (List.getElem?_eq_some_iff.1 hs).1; omega) hs]
end Go.Proofs.YtmamodnpghlgcaaDoor
/- playlist.one, Find. -/
set_option linter.unusedSimpArgs false
set_option linter.unusedVariables false
set_option maxRecDepth 100000
set_option maxHeartbeats 4000000
namespace Go.Proofs.YtmamodnpghlgcaaDoor
open Go.RowKit
theorem loadAt {n : Nat} {F : Fact} {b o : Nat} {k : SV → Prop} {v : Value} (h : F.to (cellsF b o [v])) (hk : k (.v v)) : loadF (some (false, n)) F ⟨b, o, none⟩ k := by
  refine ⟨v, fun s hs => ⟨rfl, fun j u hu => h s hs j u hu⟩, hk⟩
theorem find1_fn (s : Seg) (n : Int) (b : Nat) (F : Fact) (hF : F.to (cellsF b 0 [.int .i64 n])) : Fn Tryd.prog 47 [segV s, .pointer (some ⟨b, 0, none⟩)] F fun v _ => v = .bool (decide (s.num = n)) := by
  refine Fn.of_body Tryd.func47 rfl (Nat.le_of_ble_eq_true rfl) (Nat.le_of_ble_eq_true rfl) (by kernel_rfl) ?_
  refine SC.seqN [1, 2] [.l 2] fun K hK1 => SC.region ?_
  simp -implicitDefEqProofs only [push_cast, ↓reduceIte, Nat.reduceEqDiff, Nat.reduceAdd, Nat.reduceMul, Nat.reduceSub, Nat.reduceLeDiff, Nat.reduceLT, reduceCtorEq, segV, segC]
  refine hK1 _ ?_
  refine SC.seqN [3] [] fun K hK2 => SC.region ?_
  simp -implicitDefEqProofs only [push_cast, ↓reduceIte, Nat.reduceEqDiff, Nat.reduceAdd, Nat.reduceMul, Nat.reduceSub, Nat.reduceLeDiff, Nat.reduceLT, reduceCtorEq]
  refine loadAt hF ?_
  simp -implicitDefEqProofs only [push_cast, ↓reduceIte, Nat.reduceEqDiff, Nat.reduceAdd, Nat.reduceMul, Nat.reduceSub, Nat.reduceLeDiff, Nat.reduceLT, reduceCtorEq]
  refine hK2 _ ?_
  refine SC.ret ?_
  simp -implicitDefEqProofs only [push_cast, ↓reduceIte, Nat.reduceEqDiff, Nat.reduceAdd, Nat.reduceMul, Nat.reduceSub, Nat.reduceLeDiff, Nat.reduceLT, reduceCtorEq, Tryd.f47]
theorem idxM_pos {l : List Seg} {f : Seg → Bool} (h : 0 ≤ idxM l f) : ∃ (i : Nat) (hi : i < l.length), idxM l f = i ∧ l.find? f = some l[i] := by
  cases hf : l.findIdx? f with
  | none => simp [idxM, hf] at h
  | some i =>
    obtain ⟨h1, h2, h3⟩ := List.findIdx?_eq_some_iff_getElem.1 hf
    refine ⟨i, h1, by simp [idxM, hf], ?_⟩
    rw [List.find?_eq_some_iff_getElem]
    exact ⟨h2, i, h1, rfl, fun j hj => by simpa using h3 j hj⟩
theorem idxM_neg {l : List Seg} {f : Seg → Bool} (h : ¬ 0 ≤ idxM l f) : l.find? f = none := by
  cases hf : l.findIdx? f with
  | some i => simp [idxM, hf] at h
  | none => simpa [List.findIdx?_eq_none_iff, List.find?_eq_none] using hf
def oneV : Option Seg → Value
  | some s => .tuple #[segV s, .int .i64 0]
  | none => .tuple #[segV seg0, .int .i64 5]
theorem one_fn (p : Pl) (v : Value) (g : FuncId) (caps : Array Value) (f : Seg → Bool) (F : Fact) (hp : isPl p F v) (hl : p.l.length < 1000000) (hok : fnOK Tryd.prog g = true) (hg : ∀ s ∈ p.l, Fn Tryd.prog g (segV s :: caps.toList) F fun v _ => v = .bool (f s)) :
    Fn Tryd.prog 46 [v, .func (.func g) #[] caps] F fun v _ => v = oneV (p.l.find? f) := by
  obtain ⟨a, c, rfl, hc, hF⟩ := hp
  refine Fn.of_body Tryd.func46 rfl (Nat.le_of_ble_eq_true rfl) (Nat.le_of_ble_eq_true rfl) (by kernel_rfl) ?_
  refine SC.seqN [1, 2, 4] [.l 2, .l 4] fun K hK1 => SC.region ?_
  simp -implicitDefEqProofs only [push_cast, ↓reduceIte, Nat.reduceEqDiff, Nat.reduceAdd, Nat.reduceMul, Nat.reduceSub, Nat.reduceLeDiff, Nat.reduceLT, reduceCtorEq, plV]
  refine hK1 _ ?_
  refine SC.seqN [4] [.l 4] fun K hK2 => ?_
  refine SC.seqN [2, 4, 6] [.l 2, .l 4] fun K hK3 => SC.region ?_
  simp -implicitDefEqProofs only [push_cast, ↓reduceIte, Nat.reduceEqDiff, Nat.reduceAdd, Nat.reduceMul, Nat.reduceSub, Nat.reduceLeDiff, Nat.reduceLT, reduceCtorEq]
  refine callL_fn0 (indexSeg_fn p.l a c g caps f F hF hl hok hg) rfl (fun _ h => h) fun v G hv => ?_
  subst hv
  simp -implicitDefEqProofs only [push_cast, ↓reduceIte, Nat.reduceEqDiff, Nat.reduceAdd, Nat.reduceMul, Nat.reduceSub, Nat.reduceLeDiff, Nat.reduceLT, reduceCtorEq]
  refine hK3 _ ?_
  refine SC.seqN [2, 4, 6, 12] [.l 2, .l 4] fun K hK4 => SC.region ?_
  simp -implicitDefEqProofs only [push_cast, ↓reduceIte, Nat.reduceEqDiff, Nat.reduceAdd, Nat.reduceMul, Nat.reduceSub, Nat.reduceLeDiff, Nat.reduceLT, reduceCtorEq]
  refine hK4 _ ?_
  refine SC.cond ?_
  simp -implicitDefEqProofs only [push_cast, ↓reduceIte, Nat.reduceEqDiff, Nat.reduceAdd, Nat.reduceMul, Nat.reduceSub, Nat.reduceLeDiff, Nat.reduceLT, reduceCtorEq]
  refine ⟨fun h => ?_, fun h => ?_⟩
  · skip
    refine SC.seqN [4, 5] [.l 4] fun K hK5 => SC.region ?_
    simp -implicitDefEqProofs only [push_cast, ↓reduceIte, Nat.reduceEqDiff, Nat.reduceAdd, Nat.reduceMul, Nat.reduceSub, Nat.reduceLeDiff, Nat.reduceLT, reduceCtorEq]
    obtain ⟨i, hil, hi, hf⟩ := idxM_pos h
    have hp : p.l[i]? = some p.l[i] := List.getElem?_eq_getElem hil
    rw [hi]
    refine ⟨by omega, rowF_some hF (segsC_ne (by omega)), loadSeg i hF hp rfl rfl ?_⟩
    simp -implicitDefEqProofs only [push_cast, ↓reduceIte, Nat.reduceEqDiff, Nat.reduceAdd, Nat.reduceMul, Nat.reduceSub, Nat.reduceLeDiff, Nat.reduceLT, reduceCtorEq, segV, segC]
    refine hK5 _ ?_
    refine SC.ret ?_
    simp -implicitDefEqProofs only [push_cast, ↓reduceIte, Nat.reduceEqDiff, Nat.reduceAdd, Nat.reduceMul, Nat.reduceSub, Nat.reduceLeDiff, Nat.reduceLT, reduceCtorEq, Tryd.f46]
    rw [hf]; rfl
  · skip
    refine SC.skip ?_
    simp -implicitDefEqProofs only [push_cast, ↓reduceIte, Nat.reduceEqDiff, Nat.reduceAdd, Nat.reduceMul, Nat.reduceSub, Nat.reduceLeDiff, Nat.reduceLT, reduceCtorEq]
    refine hK2 _ ?_
    refine SC.seqN [4, 5] [.l 4] fun K hK6 => SC.region ?_
    simp -implicitDefEqProofs only [push_cast, ↓reduceIte, Nat.reduceEqDiff, Nat.reduceAdd, Nat.reduceMul, Nat.reduceSub, Nat.reduceLeDiff, Nat.reduceLT, reduceCtorEq]
    refine hK6 _ ?_
    refine SC.ret ?_
    simp -implicitDefEqProofs only [push_cast, ↓reduceIte, Nat.reduceEqDiff, Nat.reduceAdd, Nat.reduceMul, Nat.reduceSub, Nat.reduceLeDiff, Nat.reduceLT, reduceCtorEq, Tryd.f46]
    rw [idxM_neg h]; rfl
end Go.Proofs.YtmamodnpghlgcaaDoor
/- playlist.Find. -/
set_option linter.unusedSimpArgs false
set_option linter.unusedVariables false
set_option maxRecDepth 100000
set_option maxHeartbeats 4000000
namespace Go.Proofs.YtmamodnpghlgcaaDoor
open Go.RowKit
theorem find_fn (p : Pl) (v : Value) (n : Int) (F : Fact) (hp : isPl p F v) (hl : p.l.length < 1000000) : Fn Tryd.prog 27 [v, .int .i64 n] F fun v _ => v = oneV (findM p.l n) := by
  obtain ⟨a, c, rfl, hc, hF⟩ := hp
  refine Fn.of_body Tryd.func27 rfl (Nat.le_of_ble_eq_true rfl) (Nat.le_of_ble_eq_true rfl) (by kernel_rfl) ?_
  refine SC.seqN [2, 3, 4] [.l 2, .l 3, .l 4] fun K hK1 => SC.region ?_
  simp -implicitDefEqProofs only [push_cast, ↓reduceIte, Nat.reduceEqDiff, Nat.reduceAdd, Nat.reduceMul, Nat.reduceSub, Nat.reduceLeDiff, Nat.reduceLT, reduceCtorEq, plV]
  refine hK1 _ ?_
  refine SC.frzB (k := .l 3) rfl rfl fun bk r => ?_
  simp -implicitDefEqProofs only [push_cast, ↓reduceIte, Nat.reduceEqDiff, Nat.reduceAdd, Nat.reduceMul, Nat.reduceSub, Nat.reduceLeDiff, Nat.reduceLT, reduceCtorEq]
  refine SC.seqN [4, 5] [.l 3, .l 4] fun K hK2 => SC.region ?_
  simp -implicitDefEqProofs only [push_cast, ↓reduceIte, Nat.reduceEqDiff, Nat.reduceAdd, Nat.reduceMul, Nat.reduceSub, Nat.reduceLeDiff, Nat.reduceLT, reduceCtorEq]
  have hF2 : (F.and (cellsF bk 0 [.int .i64 n])).to (rowF a (segsC p.l)) := Fact.to_left hF
  have hF3 : (F.and (cellsF bk 0 [.int .i64 n])).to (cellsF bk 0 [.int .i64 n]) := Fact.to_right (Fact.to_refl _)
  refine callL_fn0 (one_fn p _ _ #[.pointer (some ⟨bk, 0, none⟩)] (fun s => decide (s.num = n)) _ ⟨a, c, rfl, hc, hF2⟩ hl (by kernel_rfl) fun s _ => find1_fn s n bk _ hF3) rfl (fun _ h => h) fun v G hv => ?_
  subst hv
  rw [show p.l.find? (fun s => decide (s.num = n)) = findM p.l n from rfl]
  cases hf : findM p.l n
  all_goals simp -implicitDefEqProofs only [push_cast, ↓reduceIte, Nat.reduceEqDiff, Nat.reduceAdd, Nat.reduceMul, Nat.reduceSub, Nat.reduceLeDiff, Nat.reduceLT, reduceCtorEq, oneV, seg0, segV, segC]
  all_goals refine hK2 _ ?_
  all_goals refine SC.ret ?_
  all_goals simp -implicitDefEqProofs only [push_cast, ↓reduceIte, Nat.reduceEqDiff, Nat.reduceAdd, Nat.reduceMul, Nat.reduceSub, Nat.reduceLeDiff, Nat.reduceLT, reduceCtorEq, Tryd.f27]
  all_goals (rw [hf]; rfl)
end Go.Proofs.YtmamodnpghlgcaaDoor
/- Regions that draw their order: loads taken ahead, where nothing that comes between turns them. -/
set_option linter.unusedVariables false
set_option linter.unusedSimpArgs false
namespace Go.Proofs.YtmamodnpghlgcaaDoor
open Go.RowKit

def YieldsAt (P : Program) (ops : Array Oper) (o : Oper) (v : Value) (a : Act) (w : World) : Prop :=
  (Region.wanted o (yielded ops a.tmps) = true ∧ (execOp a.eval o).run P w = .ok (.value v) w) ∨ (Region.wanted o (yielded ops a.tmps) = false ∧ v = undef)
/-- j does not wait for i. -/
def indep (ops : Array Oper) (j i : Nat) : Bool := match ops[j]? with | some o => !(o.after.any fun e => Region.binds .any e && e.on == i) | none => true
def HoldL (P : Program) (ops : Array Oper) (L : List (Nat × Value)) (a : Act) (w : World) : Prop := ∀ i v, (i, v) ∈ L → ∃ o, ops[i]? = some o ∧ YieldsAt P ops o v a w
def keepL (ops : Array Oper) (j : Nat) (L : List (Nat × Value)) : List (Nat × Value) := L.filter fun p => indep ops j p.1
def wpAnyL (P : Program) (ops : Array Oper) (Q : Exit → Act → World → Prop) : List (Nat × Value) → Nat → Array Bool → Act → World → Prop
  | _, 0, listed, a, w => Region.ready .any ops listed = [] ∧ Q .normal a w
  | L, fuel + 1, listed, a, w =>
    (Region.ready .any ops listed = [] → Q .normal a w) ∧
    ∀ j ∈ Region.ready .any ops listed, wpOpIn Fence.wide 0 P ops Q j (fun a' w' => HoldL P ops (keepL ops j L) a' w' ∧ wpAnyL P ops Q (keepL ops j L) fuel (listed.setIfInBounds j true) a' w') a w
section
variable {P : Program} {ops : Array Oper} {Q : Exit → Act → World → Prop}
theorem wpAnyL_any : ∀ (fuel : Nat) (L : List (Nat × Value)) (listed : Array Bool) (a : Act) (w : World), wpAnyL P ops Q L fuel listed a w → wpAnyIn Fence.wide 0 P .any ops Q fuel listed a w
  | 0, _, _, _, _, h => h
  | fuel + 1, L, listed, a, w, h => ⟨h.1, fun j hj => wpOpIn_mono (fun a' w' hk => wpAnyL_any fuel _ _ a' w' hk.2) (h.2 j hj)⟩
theorem keepL_sub {j : Nat} {L L' : List (Nat × Value)} (h : ∀ x ∈ L', x ∈ L) : ∀ x ∈ keepL ops j L', x ∈ keepL ops j L := by
  intro x hx
  simp only [keepL, List.mem_filter] at hx ⊢
  exact ⟨h x hx.1, hx.2⟩
theorem keepL_le {j : Nat} {L : List (Nat × Value)} : ∀ x ∈ keepL ops j L, x ∈ L := fun x hx => (List.mem_filter.1 hx).1
theorem HoldL.sub {L L' : List (Nat × Value)} {a : Act} {w : World} (h : HoldL P ops L a w) (hs : ∀ x ∈ L', x ∈ L) : HoldL P ops L' a w := fun i v hm => h i v (hs _ hm)
theorem wpAnyL_sub : ∀ (fuel : Nat) (L L' : List (Nat × Value)) (listed : Array Bool) (a : Act) (w : World), (∀ x ∈ L', x ∈ L) → wpAnyL P ops Q L fuel listed a w → wpAnyL P ops Q L' fuel listed a w
  | 0, _, _, _, _, _, _, h => h
  | fuel + 1, L, L', listed, a, w, hs, h => ⟨h.1, fun j hj => wpOpIn_mono (fun a' w' hk => ⟨hk.1.sub (keepL_sub hs), wpAnyL_sub fuel _ _ _ a' w' (keepL_sub hs) hk.2⟩) (h.2 j hj)⟩
theorem YieldsAt.put {o : Oper} {v : Value} {a : Act} {w : World} {d : Option Tmp} {u : Value} (hs : ∀ cs b, o.op ≠ .select cs b) (hd : ∀ t, d = some t → t ∉ o.looksAt ops) : YieldsAt P ops o v (a.put d u) w ↔ YieldsAt P ops o v a w := by
  unfold YieldsAt
  rw [execOp_put o hs a d u hd, wanted_put o a d u hd]
theorem YieldsAt.wpOp {i : Nat} {o : Oper} {v : Value} {a : Act} {w : World} (hi : ops[i]? = some o) (hy : YieldsAt P ops o v a w) {K : Act → World → Prop} (h : K (a.put o.dst v) w) : wpOpIn Fence.wide 0 P ops Q i K a w := by
  unfold Go.wpOpIn
  simp only [hi]
  rcases hy with ⟨hw, hv⟩ | ⟨hw, rfl⟩
  · simp only [hw, if_true]; exact wpr_run (by rw [hv]; exact h)
  · simp only [hw, Bool.false_eq_true, if_false]; exact ⟨fun _ _ => trivial, h⟩
/-- Another operation, a slot written ahead of it. -/
theorem wpOp_put2 {j : Nat} {oi oj : Oper} {v : Value} (hj : ops[j]? = some oj) (hap : oi.apart ops oj = true)
    (hsj : ∀ cs b, oj.op ≠ .select cs b)
    (hQ : ∀ c a w, Q (.panic c) (a.put oi.dst v) w → Q (.panic c) a w) {K : Act → World → Prop} {a : Act} {w : World}
    (h : wpOpIn Fence.wide 0 P ops Q j K (a.put oi.dst v) w) :
    wpOpIn Fence.wide 0 P ops Q j (fun a' w' => K (a'.put oi.dst v) w') a w := by
  obtain ⟨h1, h2, h3⟩ := Oper.apart_spec hap
  unfold wpOpIn at *
  simp only [hj] at *
  rw [wanted_put oj a oi.dst v h1] at h
  split
  · rename_i hw
    simp only [hw, if_true] at h
    refine wpr_run ?_
    replace h : oj.uponIn Fence.wide 0 P (a.put oi.dst v) K Q ((execOp (a.put oi.dst v).eval oj).run P w) := h.2
    rw [execOp_put oj hsj a oi.dst v h1] at h
    generalize (execOp a.eval oj).run P w = r at *
    cases r with
    | ok n w' =>
      cases n <;> simp only [Oper.uponIn] at h ⊢
      case value u => rw [← Act.put_comm a v u h2]; exact h
      case skip => rw [← Act.put_comm a v undef h2]; exact h
      case defer d =>
        rw [← Act.put_comm _ v undef h2, ← Act.put_defers]
        exact h
      case enter f args =>
        refine ⟨h.1, CallsIn.mono h.2 fun e w'' he => ?_⟩
        cases e with
        | returned u =>
          show K ((a.put oj.dst u).put oi.dst v) w''
          rw [← Act.put_comm a v u h2]; exact he
        | panicked c => exact hQ _ _ _ he
        | outgrown => exact he
      case row row args => exact ⟨h.1, RowsIn.mono h.2 fun u w'' he => by rw [← Act.put_comm a v u h2]; exact he⟩
      case round l f tmps assign body =>
        refine ⟨h.1, RoundIn.mono h.2 fun e w'' he => ?_⟩
        cases e with
        | returned u =>
          show K ((a.put oj.dst u).put oi.dst v) w''
          rw [← Act.put_comm a v u h2]; exact he
        | panicked c => exact hQ _ _ _ he
        | outgrown => exact he
    | halt x w' =>
      cases x <;> simp only [Oper.uponIn] at h ⊢
      case panic u => exact hQ _ _ _ h
  · rename_i hw
    simp only [hw] at h
    exact ⟨fun _ _ => trivial, by rw [← Act.put_comm a v undef h2]; exact h.2⟩
/-- d is not looked at by what is promised. -/
def offL (ops : Array Oper) (d : Option Tmp) (L : List (Nat × Value)) : Prop := ∀ k u, (k, u) ∈ L → ∀ o, ops[k]? = some o → ∀ t, d = some t → t ∉ o.looksAt ops
theorem HoldL.put {L : List (Nat × Value)} {a : Act} {w : World} {d : Option Tmp} {u : Value} (hs : ∀ (j : Nat) (o : Oper) cs b, ops[j]? = some o → o.op ≠ .select cs b) (ho : offL ops d L) : HoldL P ops L (a.put d u) w ↔ HoldL P ops L a w := by
  constructor
  · intro h i v hm
    obtain ⟨o, h1, h2⟩ := h i v hm
    exact ⟨o, h1, (YieldsAt.put (fun cs b => hs i o cs b h1) (ho i v hm o h1)).1 h2⟩
  · intro h i v hm
    obtain ⟨o, h1, h2⟩ := h i v hm
    exact ⟨o, h1, (YieldsAt.put (fun cs b => hs i o cs b h1) (ho i v hm o h1)).2 h2⟩
theorem ready_indep {i j : Nat} {listed : Array Bool} (hj : j ∈ Region.ready .any ops listed) (hi : listed.getD i true = false) : indep ops j i = true := by
  obtain ⟨hjun, oj, hoj, hall⟩ := mem_ready.1 hj
  simp only [indep, hoj, Bool.not_eq_true', Array.any_eq_false']
  rintro e he hb
  simp only [Bool.and_eq_true, beq_iff_eq] at hb
  have h1 := hall e he hb.1
  rw [hb.2] at h1
  rcases Nat.lt_or_ge i listed.size with h' | h'
  · simp [h'] at hi h1; rw [hi] at h1; cases h1
  · simp [Array.getElem?_eq_none h'] at h1
/-- An operation that yields the same until another one waits for it, first. -/
theorem wpAnyL_first {i : Nat} {oi : Oper} {v : Value} (hi : ops[i]? = some oi) (hsel : ∀ (j : Nat) (o : Oper) cs b, ops[j]? = some o → o.op ≠ .select cs b)
    (hQ : ∀ c a w, Q (.panic c) (a.put oi.dst v) w → Q (.panic c) a w) (hself : ∀ t, oi.dst = some t → t ∉ oi.looksAt ops) :
    ∀ (fuel : Nat) (L : List (Nat × Value)) (listed : Array Bool) (a : Act) (w : World),
      (∀ j oj, ops[j]? = some oj → j ≠ i → listed.getD j true = false → (∀ e ∈ oj.after, Region.binds .any e = true → e.on ≠ i) → oi.apart ops oj = true) →
      i ∈ Region.ready .any ops listed → YieldsAt P ops oi v a w → HoldL P ops L a w → offL ops oi.dst L →
      wpAnyL P ops Q ((i, v) :: L) fuel (listed.setIfInBounds i true) (a.put oi.dst v) w → wpAnyL P ops Q L (fuel + 1) listed a w := by
  intro fuel
  induction fuel with
  | zero =>
    intro L listed a w _ hr hy hL ho H
    refine ⟨fun h => (by rw [h] at hr; cases hr), fun j hj => ?_⟩
    by_cases hji : j = i
    · subst hji
      refine hy.wpOp hi ⟨(HoldL.put hsel (fun k u hm => ho k u (keepL_le _ hm))).2 (hL.sub keepL_le), ?_⟩
      exact wpAnyL_sub 0 _ _ _ _ _ (fun x hx => List.mem_cons_of_mem _ (keepL_le _ hx)) H
    · have := ready_mono hj hji
      rw [H.1] at this
      cases this
  | succ fuel ih =>
    intro L listed a w hfree hr hy hL ho H
    refine ⟨fun h => (by rw [h] at hr; cases hr), fun j hj => ?_⟩
    by_cases hji : j = i
    · subst hji
      refine hy.wpOp hi ⟨(HoldL.put hsel (fun k u hm => ho k u (keepL_le _ hm))).2 (hL.sub keepL_le), ?_⟩
      exact wpAnyL_sub _ _ _ _ _ _ (fun x hx => List.mem_cons_of_mem _ (keepL_le _ hx)) H
    · have h1 := H.2 j (ready_mono hj hji)
      obtain ⟨hjun, oj, hoj, hall⟩ := mem_ready.1 hj
      have hun := (mem_ready.1 hr).1
      have hin := ready_indep hj hun
      have hnot : ∀ e ∈ oj.after, Region.binds .any e = true → e.on ≠ i := by
        intro e he hb heq
        simp only [indep, hoj, Bool.not_eq_true', Array.any_eq_false'] at hin
        exact hin e he (by simp [hb, heq])
      have hap := hfree j oj hoj hji hjun hnot
      have h2 := wpOp_put2 hoj hap (fun cs b => hsel j oj cs b hoj) hQ h1
      have hkeep : keepL ops j ((i, v) :: L) = (i, v) :: keepL ops j L := by simp [keepL, hin]
      rw [hkeep] at h2
      have hfree' : ∀ k ok, ops[k]? = some ok → k ≠ i → (listed.setIfInBounds j true).getD k true = false →
          (∀ e ∈ ok.after, Region.binds .any e = true → e.on ≠ i) → oi.apart ops ok = true := fun k ok hk hki hun hno => by
        refine hfree k ok hk hki ?_ hno
        by_cases hjk : j = k
        · subst hjk; exact hjun
        · rw [getD_set_ne true hjk] at hun; exact hun
      have ho' : offL ops oi.dst (keepL ops j L) := fun k u hm => ho k u (keepL_le _ hm)
      refine wpOpIn_mono (fun a' w' h3 => ?_) h2
      obtain ⟨h4, h5⟩ := h3
      have hya : YieldsAt P ops oi v a' w' := by
        obtain ⟨o, h6, h7⟩ := h4 i v (by simp)
        rw [hi] at h6
        obtain rfl := Option.some.inj h6
        exact (YieldsAt.put (fun cs b => hsel i oi cs b hi) hself).1 h7
      have hLa : HoldL P ops (keepL ops j L) a' w' := (HoldL.put hsel ho').1 (h4.sub fun x hx => List.mem_cons_of_mem _ hx)
      refine ⟨hLa, ih (keepL ops j L) (listed.setIfInBounds j true) a' w' hfree' (ready_mono hr (Ne.symm hji)) hya hLa ho' ?_⟩
      rw [Array.setIfInBounds_comm _ _ hji]
      exact h5
/-- An operation that asks nothing of the world, first. -/
theorem wpAnyL_pure {i : Nat} {oi : Oper} {v : Value} (hi : ops[i]? = some oi) (hsel : ∀ (j : Nat) (o : Oper) cs b, ops[j]? = some o → o.op ≠ .select cs b)
    (hQ : ∀ c a w, Q (.panic c) (a.put oi.dst v) w → Q (.panic c) a w) :
    ∀ (fuel : Nat) (L : List (Nat × Value)) (listed : Array Bool) (a : Act) (w : World),
      (∀ j oj, ops[j]? = some oj → j ≠ i → listed.getD j true = false → (∀ e ∈ oj.after, Region.binds .any e = true → e.on ≠ i) → oi.apart ops oj = true) →
      i ∈ Region.ready .any ops listed → YieldsFenced P ops oi v a → HoldL P ops L a w → offL ops oi.dst L →
      wpAnyL P ops Q L fuel (listed.setIfInBounds i true) (a.put oi.dst v) w → wpAnyL P ops Q L (fuel + 1) listed a w := by
  intro fuel
  induction fuel with
  | zero =>
    intro L listed a w _ hr hy hL ho H
    refine ⟨fun h => (by rw [h] at hr; cases hr), fun j hj => ?_⟩
    by_cases hji : j = i
    · subst hji
      refine hy.wpOpIn rfl hi ⟨(HoldL.put hsel (fun k u hm => ho k u (keepL_le _ hm))).2 (hL.sub keepL_le), ?_⟩
      exact wpAnyL_sub 0 _ _ _ _ _ (fun x hx => keepL_le _ hx) H
    · have := ready_mono hj hji
      rw [H.1] at this
      cases this
  | succ fuel ih =>
    intro L listed a w hfree hr hy hL ho H
    refine ⟨fun h => (by rw [h] at hr; cases hr), fun j hj => ?_⟩
    by_cases hji : j = i
    · subst hji
      refine hy.wpOpIn rfl hi ⟨(HoldL.put hsel (fun k u hm => ho k u (keepL_le _ hm))).2 (hL.sub keepL_le), ?_⟩
      exact wpAnyL_sub _ _ _ _ _ _ (fun x hx => keepL_le _ hx) H
    · have h1 := H.2 j (ready_mono hj hji)
      obtain ⟨hjun, oj, hoj, hall⟩ := mem_ready.1 hj
      have hun := (mem_ready.1 hr).1
      have hin := ready_indep hj hun
      have hnot : ∀ e ∈ oj.after, Region.binds .any e = true → e.on ≠ i := by
        intro e he hb heq
        simp only [indep, hoj, Bool.not_eq_true', Array.any_eq_false'] at hin
        exact hin e he (by simp [hb, heq])
      have hap := hfree j oj hoj hji hjun hnot
      have h2 := wpOpIn_put rfl hoj hap (fun cs b => hsel i oi cs b hi) (fun cs b => hsel j oj cs b hoj) hQ hy h1
      have hfree' : ∀ k ok, ops[k]? = some ok → k ≠ i → (listed.setIfInBounds j true).getD k true = false →
          (∀ e ∈ ok.after, Region.binds .any e = true → e.on ≠ i) → oi.apart ops ok = true := fun k ok hk hki hun hno => by
        refine hfree k ok hk hki ?_ hno
        by_cases hjk : j = k
        · subst hjk; exact hjun
        · rw [getD_set_ne true hjk] at hun; exact hun
      have ho' : offL ops oi.dst (keepL ops j L) := fun k u hm => ho k u (keepL_le _ hm)
      refine wpOpIn_mono (fun a' w' h3 => ?_) h2
      obtain ⟨hy3, h4, h5⟩ := h3
      have hLa : HoldL P ops (keepL ops j L) a' w' := (HoldL.put hsel ho').1 h4
      refine ⟨hLa, ih (keepL ops j L) (listed.setIfInBounds j true) a' w' hfree' (ready_mono hr (Ne.symm hji)) hy3 hLa ho' ?_⟩
      rw [Array.setIfInBounds_comm _ _ hji]
      exact h5
end
end Go.Proofs.YtmamodnpghlgcaaDoor
/- Plans with loads taken ahead. -/
set_option linter.unusedVariables false
set_option linter.unusedSimpArgs false
namespace Go.Proofs.YtmamodnpghlgcaaDoor
open Go.RowKit

/-! ### A state that says all that another said -/
def keyOf : SV → Option Key
  | .own k _ => some k
  | .elt k _ => some k
  | _ => none
def presK (th th' : List (Key × Thing)) : Option Key → Prop
  | some k => fd th' k = fd th k
  | none => True
/-- What the slots point to stays. -/
def pres (st st' : St) : List Nat → Prop
  | [] => True
  | t :: l => presK st.th st'.th (keyOf (st.ev (.tmp t))) ∧ pres st st' l
theorem keyOf_own (k : Key) (o : Nat) : keyOf (.own k o) = some k := rfl
theorem keyOf_elt (k : Key) (o : Nat) : keyOf (.elt k o) = some k := rfl
theorem keyOf_v (v : Value) : keyOf (.v v) = none := rfl
theorem presK_some (th th' : List (Key × Thing)) (k : Key) : presK th th' (some k) = (fd th' k = fd th k) := rfl
theorem presK_none (th th' : List (Key × Thing)) : presK th th' none = True := rfl
theorem pres_nil (st st' : St) : pres st st' [] = True := rfl
theorem pres_cons (st st' : St) (t : Nat) (l : List Nat) : pres st st' (t :: l) = (presK st.th st'.th (keyOf (st.ev (.tmp t))) ∧ pres st st' l) := rfl
theorem pres_spec {st st' : St} : ∀ {ts : List Nat}, pres st st' ts → ∀ t ∈ ts, ∀ k, keyOf (st.ev (.tmp t)) = some k → fd st'.th k = fd st.th k
  | [], _, t, h, _, _ => by cases h
  | u :: l, h, t, ht, k, hk => by
    rcases List.mem_cons.1 ht with rfl | ht
    · have := h.1; rw [hk] at this; exact this
    · exact pres_spec h.2 t ht k hk
def extS (ts : List Nat) (st st' : St) : Prop := st'.tm = st.tm ∧ pres st st' ts ∧ st'.F.to st.F
theorem extS_mk (ts : List Nat) (tm tm' : List (Nat × SV)) (th th' : List (Key × Thing)) (F F' : Fact) : extS ts ⟨tm, th, F⟩ ⟨tm', th', F'⟩ = (tm' = tm ∧ pres ⟨tm, th, F⟩ ⟨tm', th', F'⟩ ts ∧ F'.to F) := rfl
theorem to_self (F : Fact) : F.to F = True := eq_true (Fact.to_refl F)
theorem to_and_left (F G : Fact) : (F.and G).to F = True := eq_true (Fact.to_left (Fact.to_refl F))
theorem partx_mono {q : Option (Bool × Nat)} {cs : List SV} {o : Nat} {k k' : SV → Prop} (h : partx q cs o k) (hk : ∀ x, k x → k' x) : partx q cs o k' := by
  unfold partx at *
  split
  · exact ⟨h.1, hk _ h.2⟩
  · rename_i n
    simp only at h
    unfold ox at *
    split
    · rename_i y hy; rw [hy] at h; exact hk _ h
    · rename_i hy; rw [hy] at h; exact h
  · exact h
theorem loadx_ext {q : Option (Bool × Nat)} {st st' : St} {x : SV} {k k' : SV → Prop} (h : loadx q st x k) (hth : ∀ j, keyOf x = some j → fd st'.th j = fd st.th j) (hF : st'.F.to st.F) (hk : ∀ x, k x → k' x) : loadx q st' x k' := by
  unfold loadx at *
  split at h
  · rename_i b o
    have hb := hth b rfl
    unfold ox at *
    simp only [boxC, hb] at h ⊢
    split at h
    · rename_i cs hc
      rw [hc]; exact partx_mono h hk
    · exact h.elim
  · rename_i r o
    have hb := hth r rfl
    unfold ox at *
    simp only [rowX, hb] at h ⊢
    split at h
    · rename_i cs hc
      rw [hc]; exact partx_mono h hk
    · exact h.elim
  · rename_i ad
    unfold loadF at *
    split at h
    · obtain ⟨cs, h1, h2, h3⟩ := h; exact ⟨cs, h1, fun s hs => h2 s (hF s hs), hk _ h3⟩
    · obtain ⟨c, h1, h2⟩ := h; exact ⟨c, fun s hs => h1 s (hF s hs), hk _ h2⟩
    · exact h
  · exact h.elim
theorem loadx_put {q : Option (Bool × Nat)} {st : St} {d : Option Tmp} {y x : SV} {k : SV → Prop} (h : loadx q st x k) : loadx q (st.put d y) x k := by
  cases d <;> exact h

/-! ### One operation, its guard with it -/
def oneEK (ts : List Nat) (k : St → Prop) (d : Option Tmp) (st1 : St) (x : SV) (st' : St) : Prop := extS ts st1 st' ∧ k (st'.put d x)
def oneEA (ts : List Nat) (P : Program) (Qp : Value → St → Prop) (k : St → Prop) (d : Option Tmp) (op : Op) (st : St) : Prop := opx P Qp d st (oneEK ts k d st) op
def oneE (ts : List Nat) (P : Program) (Qp : Value → St → Prop) (all : List Oper) (o : Oper) (k : St → Prop) (st : St) : Prop :=
  match o.guard with
  | none => oneEA ts P Qp k o.dst o.op st
  | some (j, want) => gt (gdst all j) want (oneEA ts P Qp k o.dst o.op) (oneB k o.dst) st
def oneLK (k : St → Prop) (d : Option Tmp) (st1 : St) (y : SV) : Prop :=
  match y with
  | .v c => k (st1.put d (.v c))
  | _ => False
def oneLA (P : Program) (k : St → Prop) (d : Option Tmp) (op : Op) (st : St) : Prop :=
  match op with
  | .load t x => loadx (tq P t) st (st.ev x) (oneLK k d st)
  | _ => False
def oneL2 (P : Program) (all : List Oper) (o : Oper) (k : St → Prop) (st : St) : Prop :=
  match o.guard with
  | none => oneLA P k o.dst o.op st
  | some (j, want) => gt (gdst all j) want (oneLA P k o.dst o.op) (oneB k o.dst) st
theorem oneEK_eq (ts : List Nat) (k : St → Prop) (d : Option Tmp) (st1 : St) (x : SV) (st' : St) : oneEK ts k d st1 x st' = (extS ts st1 st' ∧ k (st'.put d x)) := rfl
theorem oneEA_eq (ts : List Nat) (P : Program) (Qp : Value → St → Prop) (k : St → Prop) (d : Option Tmp) (op : Op) (st : St) : oneEA ts P Qp k d op st = opx P Qp d st (oneEK ts k d st) op := rfl
theorem oneE_plain (ts : List Nat) (P : Program) (Qp : Value → St → Prop) (all : List Oper) (d : Option Tmp) (op : Op) (ty : TypeId) (pos : String) (af : Array Edge) (k : St → Prop) (st : St) : oneE ts P Qp all ⟨d, op, ty, pos, af, none⟩ k st = oneEA ts P Qp k d op st := rfl
theorem oneE_guard (ts : List Nat) (P : Program) (Qp : Value → St → Prop) (all : List Oper) (d : Option Tmp) (op : Op) (ty : TypeId) (pos : String) (af : Array Edge) (j : Nat) (want : Bool) (k : St → Prop) (st : St) : oneE ts P Qp all ⟨d, op, ty, pos, af, some (j, want)⟩ k st = gt (gdst all j) want (oneEA ts P Qp k d op) (oneB k d) st := rfl
theorem oneLK_v (k : St → Prop) (d : Option Tmp) (st1 : St) (c : Value) : oneLK k d st1 (.v c) = k (st1.put d (.v c)) := rfl
theorem oneLK_q (k : St → Prop) (d : Option Tmp) (st1 : St) (b : Bool) : oneLK k d st1 (SV.q b) = k (st1.put d (SV.q b)) := rfl
theorem oneLA_eq (P : Program) (k : St → Prop) (d : Option Tmp) (t : TypeId) (x : Operand) (st : St) : oneLA P k d (.load t x) st = loadx (tq P t) st (st.ev x) (oneLK k d st) := rfl
theorem oneL2_plain (P : Program) (all : List Oper) (d : Option Tmp) (op : Op) (ty : TypeId) (pos : String) (af : Array Edge) (k : St → Prop) (st : St) : oneL2 P all ⟨d, op, ty, pos, af, none⟩ k st = oneLA P k d op st := rfl
theorem oneL2_guard (P : Program) (all : List Oper) (d : Option Tmp) (op : Op) (ty : TypeId) (pos : String) (af : Array Edge) (j : Nat) (want : Bool) (k : St → Prop) (st : St) : oneL2 P all ⟨d, op, ty, pos, af, some (j, want)⟩ k st = gt (gdst all j) want (oneLA P k d op) (oneB k d) st := rfl

/-! ### Plans -/
inductive Pn where
  | done
  | take (i : Nat) (p : Pn)
  | load (i : Nat) (p : Pn)
  | fork (i : Nat) (p r : Pn)
  | forkE (i : Nat) (ts : List Nat) (p r : Pn)
  | stop
def Pn.heads : Pn → List Nat
  | .fork i _ r => i :: r.heads
  | .forkE i _ _ r => i :: r.heads
  | _ => []
def pnx (P : Program) (Qp : Value → St → Prop) (all : List Oper) (K : St → Prop) : Pn → St → Prop
  | .done, st => K st
  | .take i p, st => ox (idx all i) fun o => one P Qp all o (pnx P Qp all K p) st
  | .load i p, st => ox (idx all i) fun o => oneL2 P all o (pnx P Qp all K p) st
  | .fork i p r, st => (ox (idx all i) fun o => one P Qp all o (pnx P Qp all K p) st) ∧ pnx P Qp all K r st
  | .forkE i ts p r, st => (ox (idx all i) fun o => oneE ts P Qp all o (pnx P Qp all K p) st) ∧ pnx P Qp all K r st
  | .stop, _ => True
def pnT (P : Program) (Qp : Value → St → Prop) (all : List Oper) (K : St → Prop) (p : Pn) (st : St) (o : Oper) : Prop := one P Qp all o (pnx P Qp all K p) st
def pnL (P : Program) (Qp : Value → St → Prop) (all : List Oper) (K : St → Prop) (p : Pn) (st : St) (o : Oper) : Prop := oneL2 P all o (pnx P Qp all K p) st
def pnE (ts : List Nat) (P : Program) (Qp : Value → St → Prop) (all : List Oper) (K : St → Prop) (p : Pn) (st : St) (o : Oper) : Prop := oneE ts P Qp all o (pnx P Qp all K p) st
section
variable (P : Program) (Qp : Value → St → Prop) (all : List Oper) (K : St → Prop)
theorem pnx_done (st : St) : pnx P Qp all K .done st = K st := rfl
theorem pnx_take (i : Nat) (p : Pn) (st : St) : pnx P Qp all K (.take i p) st = ox (idx all i) (pnT P Qp all K p st) := rfl
theorem pnx_load (i : Nat) (p : Pn) (st : St) : pnx P Qp all K (.load i p) st = ox (idx all i) (pnL P Qp all K p st) := rfl
theorem pnx_fork (i : Nat) (p r : Pn) (st : St) : pnx P Qp all K (.fork i p r) st = (ox (idx all i) (pnT P Qp all K p st) ∧ pnx P Qp all K r st) := rfl
theorem pnx_forkE (i : Nat) (ts : List Nat) (p r : Pn) (st : St) : pnx P Qp all K (.forkE i ts p r) st = (ox (idx all i) (pnE ts P Qp all K p st) ∧ pnx P Qp all K r st) := rfl
theorem pnx_stop (st : St) : pnx P Qp all K .stop st = True := rfl
theorem pnT_eq (p : Pn) (st : St) (o : Oper) : pnT P Qp all K p st o = one P Qp all o (pnx P Qp all K p) st := rfl
theorem pnL_eq (p : Pn) (st : St) (o : Oper) : pnL P Qp all K p st o = oneL2 P all o (pnx P Qp all K p) st := rfl
theorem pnE_eq (ts : List Nat) (p : Pn) (st : St) (o : Oper) : pnE ts P Qp all K p st o = oneE ts P Qp all o (pnx P Qp all K p) st := rfl
end
attribute [push_cast] keyOf_own keyOf_elt keyOf_v presK_some presK_none pres_nil pres_cons extS_mk to_self to_and_left oneEK_eq oneEA_eq oneE_plain oneE_guard oneLK_v oneLK_q oneLA_eq oneL2_plain oneL2_guard pnx_done pnx_take pnx_load pnx_fork pnx_forkE pnx_stop pnT_eq pnL_eq pnE_eq

/-- The slot i is not looked at by what is promised, nor is its guard's slot loaded from. -/
def offB (ops : Array Oper) (i : Nat) (pend : List Nat) : Bool :=
  match ops[i]? with
  | none => false
  | some oi => pend.all fun k => match ops[k]? with
    | none => false
    | some ok => (match oi.dst with | some d => !(ok.looksAt ops).contains d | none => true) &&
        (match oi.guard with | some (j, _) => (match gdst ops.toList j, ok.op with | some t, .load _ (.tmp u) => t != u | _, _ => true) | none => true)
/-- The slots that the promised loads load from. -/
def fromB (ops : Array Oper) (ts : List Nat) (pend : List Nat) : Bool :=
  pend.all fun k => match ops[k]? with
    | none => false
    | some ok => match ok.op with | .load _ (.tmp t) => ts.contains t | _ => true
def isLoadB (o : Oper) : Bool := match o.op with | .load _ _ => true | _ => false
def selfB (ops : Array Oper) (o : Oper) : Bool := match o.dst with | some d => !(o.looksAt ops).contains d | none => true
def pnOk (ops : Array Oper) : Bool → Nat → Array Bool → List Nat → Pn → Bool
  | _, _, listed, _, .done => (Region.ready .any ops listed).isEmpty
  | _, n + 1, listed, pend, .take i p => Region.free .any ops listed i && (Region.ready .any ops listed).contains i && (match ops[i]? with | some o => pureB o.op | none => false) && offB ops i pend && pnOk ops true n (listed.setIfInBounds i true) pend p
  | _, n + 1, listed, pend, .load i p => Region.free .any ops listed i && (Region.ready .any ops listed).contains i && (match ops[i]? with | some o => isLoadB o && selfB ops o | none => false) && offB ops i pend && pnOk ops true n (listed.setIfInBounds i true) (i :: pend) p
  | top, n + 1, listed, pend, .fork i p r => (!top || (!(Region.ready .any ops listed).isEmpty && (Region.ready .any ops listed).all (i :: r.heads).contains)) && (pend.filter (indep ops i)).isEmpty && pnOk ops true n (listed.setIfInBounds i true) [] p && pnOk ops false (n + 1) listed pend r
  | top, n + 1, listed, pend, .forkE i ts p r => (!top || (!(Region.ready .any ops listed).isEmpty && (Region.ready .any ops listed).all (i :: r.heads).contains)) && (offB ops i (pend.filter (indep ops i)) && fromB ops ts (pend.filter (indep ops i))) && pnOk ops true n (listed.setIfInBounds i true) (pend.filter (indep ops i)) p && pnOk ops false (n + 1) listed pend r
  | top, _, _, _, .stop => !top
  | _, 0, _, _, _ => false

/-! ### What is promised -/
def PH (P : Program) (ops : Array Oper) (L : List (Nat × Value)) (st : St) (a : Act) : Prop :=
  ∀ k u, (k, u) ∈ L → ∃ o, ops[k]? = some o ∧ ((Region.wanted o (yielded ops a.tmps) = true ∧ ∃ t x, o.op = .load t x ∧ loadx (tq P t) st (st.ev x) (fun y => y = .v u)) ∨ (Region.wanted o (yielded ops a.tmps) = false ∧ u = undef))
section
variable {P : Program} {cx : Cx} {Qp : Value → St → Prop} {K : St → Prop} {ops : Array Oper}
theorem PH.hold {L : List (Nat × Value)} {st : St} {e : Env} {s : Hp} {a : Act} {w : World} (h : PH P ops L st a) (hs : Sat1 cx st e s a w) : HoldL P ops L a w := by
  intro k u hm
  obtain ⟨o, ho, h1⟩ := h k u hm
  refine ⟨o, ho, ?_⟩
  rcases h1 with ⟨hw, t, x, hop, hl⟩ | h1
  · obtain ⟨z, v, rfl, h3, h4⟩ := loadx_run hs (hs.ev x) hl
    simp only [is_v] at h3
    subst h3
    exact .inl ⟨hw, by simp only [execOp, hop]; exact run_v h4⟩
  · exact .inr h1
theorem mem_looks {o : Oper} {t : TypeId} {u : Tmp} (h : o.op = .load t (.tmp u)) : u ∈ o.looksAt ops := by
  unfold Oper.looksAt
  refine List.mem_append_left _ (List.mem_filterMap.2 ⟨.tmp u, ?_, rfl⟩)
  rw [h]; simp [Op.operands]
theorem St.ev_put {st : St} {d : Option Tmp} {y : SV} {x : Operand} (h : ∀ t, x = .tmp t → d ≠ some t) : (st.put d y).ev x = st.ev x := by
  cases d with
  | none => rfl
  | some d =>
    cases x with
    | tmp t =>
      simp only [St.ev, St.put]
      rw [fd_up_ne _ _ (fun e => h t rfl (by rw [e]))]
    | _ => rfl
theorem PH.put {L : List (Nat × Value)} {st : St} {a : Act} (h : PH P ops L st a) {d : Option Tmp} (ho : offL ops d L) (y : SV) (v : Value) (ds : List Deferred) : PH P ops L (st.put d y) (({ a with defers := ds } : Act).put d v) := by
  intro k u hm
  obtain ⟨o, h1, h2⟩ := h k u hm
  have hoff := ho k u hm o h1
  have hw : Region.wanted o (yielded ops (({ a with defers := ds } : Act).put d v).tmps) = Region.wanted o (yielded ops a.tmps) := by
    rw [wanted_put o _ d v hoff]
  refine ⟨o, h1, ?_⟩
  rw [hw]
  rcases h2 with ⟨h3, t, x, hop, hl⟩ | h2
  · refine .inl ⟨h3, t, x, hop, ?_⟩
    rw [St.ev_put (fun t' ht hd => hoff t' hd (mem_looks (by rw [hop, ht])))]
    exact loadx_put hl
  · exact .inr h2
theorem PH.ext {L : List (Nat × Value)} {st st' : St} {a : Act} {ts : List Nat} (h : PH P ops L st a) (hx : extS ts st st') (hb : fromB ops ts (L.map (·.1)) = true) : PH P ops L st' a := by
  intro k u hm
  obtain ⟨o, h1, h2⟩ := h k u hm
  refine ⟨o, h1, h2.imp (fun ⟨h3, t, x, hop, hl⟩ => ⟨h3, t, x, hop, ?_⟩) id⟩
  have he : st'.ev x = st.ev x := by cases x <;> simp only [St.ev, hx.1]
  rw [he]
  refine loadx_ext hl (fun j hj => ?_) hx.2.2 fun _ h => h
  cases x with
  | tmp t' =>
    refine pres_spec hx.2.1 t' ?_ j hj
    have := List.all_eq_true.1 hb k (List.mem_map_of_mem (f := Prod.fst) hm)
    simp only [h1, hop] at this
    simpa using this
  | const v => simp [St.ev, keyOf] at hj
  | global g => simp [St.ev, keyOf] at hj
  | func f => simp [St.ev, keyOf] at hj
def relS (ops : Array Oper) (o : Oper) (st st1 : St) : Prop := st1 = st ∨ ∃ j want t b, o.guard = some (j, want) ∧ gdst ops.toList j = some t ∧ st1 = st.put (some t) (.v (.bool b))
def offG (ops : Array Oper) (o : Oper) (L : List (Nat × Value)) : Prop := ∀ j want t, o.guard = some (j, want) → gdst ops.toList j = some t → ∀ k u, (k, u) ∈ L → ∀ ok, ops[k]? = some ok → ∀ ty x, ok.op = .load ty (.tmp x) → t ≠ x
theorem PH.rel {L : List (Nat × Value)} {st st1 : St} {a : Act} {o : Oper} (h : PH P ops L st a) (hr : relS ops o st st1) (hg : offG ops o L) : PH P ops L st1 a := by
  rcases hr with rfl | ⟨j, want, t, b, h1, h2, rfl⟩
  · exact h
  · intro k u hm
    obtain ⟨ok, h3, h4⟩ := h k u hm
    refine ⟨ok, h3, h4.imp (fun ⟨h5, ty, x, hop, hl⟩ => ⟨h5, ty, x, hop, ?_⟩) id⟩
    rw [St.ev_put (fun t' ht hd => hg j want t h1 h2 k u hm ok h3 ty t' (by rw [hop, ht]) (Option.some.inj hd))]
    exact loadx_put hl
theorem offB_spec {i : Nat} {oi : Oper} {L : List (Nat × Value)} (hi : ops[i]? = some oi) (h : offB ops i (L.map (·.1)) = true) : offL ops oi.dst L ∧ offG ops oi L := by
  simp only [offB, hi, List.all_eq_true] at h
  have hk : ∀ k u, (k, u) ∈ L → ∀ o, ops[k]? = some o → _ := fun k u hm o ho => by
    have := h k (List.mem_map_of_mem (f := Prod.fst) hm)
    simp only [ho, Bool.and_eq_true] at this
    exact this
  constructor
  · intro k u hm o ho t ht hin
    have := (hk k u hm o ho).1
    rw [ht] at this
    simp [hin] at this
  · intro j want t hg ht k u hm ok hok ty x hop he
    have := (hk k u hm ok hok).2
    rw [hg] at this
    simp only [ht, hop] at this
    simp [he] at this
/-- What a guard's slot says of the operation. -/
theorem guard_cases2 {o : Oper} {j : Nat} {want : Bool} {A B : St → Prop} {st : St} {e : Env} {s : Hp} {a : Act} {w : World} (hg : o.guard = some (j, want)) (h : gt (gdst ops.toList j) want A B st) (hs : Sat1 cx st e s a w) :
    (Region.wanted o (yielded ops a.tmps) = true ∧ ∃ st', A st' ∧ Sat1 cx st' e s a w ∧ relS ops o st st') ∨ (Region.wanted o (yielded ops a.tmps) = false ∧ ∃ st', B st' ∧ Sat1 cx st' e s a w ∧ relS ops o st st') := by
  unfold gt at h
  split at h
  · rename_i t ht
    have hx := hs.ev (.tmp t)
    unfold gq at h
    simp only [bz] at h
    split at h
    · rename_i b hb
      rw [hb] at hx
      simp only [is_v, Act.eval] at hx
      have hlt : t < a.tmps.size := by
        rcases Nat.lt_or_ge t a.tmps.size with h1 | h1
        · exact h1
        · rw [Array.getD_eq_getD_getElem?, Array.getElem?_eq_none h1] at hx
          simp [undef] at hx
      have hsl : cx.slot a t = .bool b := by
        rw [Cx.slot, if_pos (Nat.lt_of_lt_of_le (hs.size ▸ hlt) hs.ntB)]; exact hx
      have hy : yielded ops a.tmps j = some b := by
        unfold gdst at ht
        rw [idx_eq, Array.getElem?_toList] at ht
        unfold yielded
        rw [ht]
        rw [Array.getD_eq_getD_getElem?, Array.getElem?_eq_getElem hlt] at hx
        simp only [Option.bind_some, Array.getElem?_eq_getElem hlt]
        simp only [Option.getD_some] at hx
        rw [hx]
      by_cases hbw : b = want
      · subst hbw
        exact .inl ⟨by simp [Region.wanted, hg, hy], _, h.1 rfl, hs.relabel t (is_v.2 hsl), .inr ⟨j, b, t, b, hg, ht, rfl⟩⟩
      · have hbn : b = !want := by cases b <;> cases want <;> simp_all
        have h2 := h.2 hbn
        subst hbn
        exact .inr ⟨by simp [Region.wanted, hg, hy], _, h2, hs.relabel t (is_v.2 hsl), .inr ⟨j, want, t, _, hg, ht, rfl⟩⟩
    · rename_i xs hb
      rw [hb] at hx
      simp only [is_v, Act.eval] at hx
      exact .inr ⟨unwanted_tuple hg ht hx, st, h, hs, .inl rfl⟩
    · exact h.elim
  · exact h.elim
theorem one_pure2 {k : St → Prop} {o : Oper} {st : St} {e : Env} {s : Hp} {a : Act} {w : World} (hp : pureB o.op = true) (hd : ∀ d, o.dst = some d → d < cx.nt) (h : one P Qp ops.toList o k st) (hs : Sat1 cx st e s a w) :
    ∃ v st1 x, Yields P ops o v a ∧ relS ops o st st1 ∧ k (st1.put o.dst x) ∧ Sat1 cx (st1.put o.dst x) e s (a.put o.dst v) w := by
  unfold one at h
  split at h
  · rename_i hg
    obtain ⟨x, v, h1, h2, h3⟩ := pure_run hp h hs
    exact ⟨v, st, x, .inl ⟨by simp [Region.wanted, hg], h3⟩, .inl rfl, h1, hs.put o.dst h2 hd⟩
  · rename_i j want hg
    rcases guard_cases2 hg h hs with ⟨hw, st', h1, h2, hr⟩ | ⟨hw, st', h1, h2, hr⟩
    · obtain ⟨x, v, h1, h4, h3⟩ := pure_run hp h1 h2
      exact ⟨v, st', x, .inl ⟨hw, h3⟩, hr, h1, h2.put o.dst h4 hd⟩
    · exact ⟨undef, st', _, .inr ⟨hw, rfl⟩, hr, h1, h2.put _ (is_v.2 rfl) hd⟩
theorem ox_det {A B : Type} {o : Option A} {f : (B → Prop) → A → Prop} {k : B → Prop} (h : ox o (f k)) (hf : ∀ y, f k y → ∃ z, k z ∧ f (fun u => u = z) y) : ∃ z, k z ∧ ox o (f fun u => u = z) := by
  cases o with
  | none => exact h.elim
  | some y => exact hf y h
theorem partx_det {q : Option (Bool × Nat)} {cs : List SV} {o : Nat} {k : SV → Prop} (h : partx q cs o k) : ∃ z, k z ∧ partx q cs o (fun u => u = z) := by
  unfold partx at h
  split at h
  · exact ⟨_, h.2, h.1, rfl⟩
  · exact ox_det (f := fun k y => k y) h fun y hy => ⟨y, hy, rfl⟩
  · exact h.elim
theorem loadx_det {q : Option (Bool × Nat)} {st : St} {x : SV} {k : SV → Prop} (h : loadx q st x k) : ∃ z, k z ∧ loadx q st x (fun u => u = z) := by
  unfold loadx at h
  split at h
  · exact ox_det (f := fun k => ldK q _ k) h fun y hy => partx_det hy
  · exact ox_det (f := fun k => ldK q _ k) h fun y hy => partx_det hy
  · unfold loadF at h
    split at h
    · obtain ⟨cs, h5, h6, h7⟩ := h; exact ⟨_, h7, cs, h5, h6, rfl⟩
    · obtain ⟨c, h5, h6⟩ := h; exact ⟨_, h6, c, h5, rfl⟩
    · exact h.elim
  · exact h.elim
theorem one_load {k : St → Prop} {o : Oper} {st : St} {e : Env} {s : Hp} {a : Act} {w : World} (hp : isLoadB o = true) (hd : ∀ d, o.dst = some d → d < cx.nt) (h : oneL2 P ops.toList o k st) (hs : Sat1 cx st e s a w) :
    ∃ v st1 x, ((Region.wanted o (yielded ops a.tmps) = true ∧ ∃ t x, o.op = .load t x ∧ loadx (tq P t) st1 (st1.ev x) (fun y => y = .v v)) ∨ (Region.wanted o (yielded ops a.tmps) = false ∧ v = undef)) ∧ relS ops o st st1 ∧ k (st1.put o.dst x) ∧ Sat1 cx (st1.put o.dst x) e s (a.put o.dst v) w ∧ Sat1 cx st1 e s a w := by
  have core : ∀ st1, Sat1 cx st1 e s a w → oneLA P k o.dst o.op st1 → ∃ v t x, o.op = .load t x ∧ loadx (tq P t) st1 (st1.ev x) (fun y => y = .v v) ∧ k (st1.put o.dst (.v v)) ∧ Sat1 cx (st1.put o.dst (.v v)) e s (a.put o.dst v) w := by
    intro st1 hs1 h1
    unfold oneLA at h1
    split at h1
    · rename_i t x hop
      obtain ⟨z, h2, h3⟩ := loadx_det h1
      unfold oneLK at h2
      split at h2
      · rename_i c
        exact ⟨c, t, x, hop, h3, h2, hs1.put o.dst (is_v.2 rfl) hd⟩
      · exact h2.elim
    · exact h1.elim
  unfold oneL2 at h
  split at h
  · rename_i hg
    obtain ⟨v, t, x, h1, h2, h3, h4⟩ := core st hs h
    exact ⟨v, st, _, .inl ⟨by simp [Region.wanted, hg], t, x, h1, h2⟩, .inl rfl, h3, h4, hs⟩
  · rename_i j want hg
    rcases guard_cases2 hg h hs with ⟨hw, st', h1, h2, hr⟩ | ⟨hw, st', h1, h2, hr⟩
    · obtain ⟨v, t, x, h3, h4, h5, h6⟩ := core st' h2 h1
      exact ⟨v, st', _, .inl ⟨hw, t, x, h3, h4⟩, hr, h5, h6, h2⟩
    · exact ⟨undef, st', _, .inr ⟨hw, rfl⟩, hr, h1, h2.put _ (is_v.2 rfl) hd, h2⟩
theorem PH.cons {L : List (Nat × Value)} {st1 : St} {a : Act} {i : Nat} {o : Oper} {v : Value} (hi : ops[i]? = some o) (h : PH P ops L st1 a)
    (h1 : (Region.wanted o (yielded ops a.tmps) = true ∧ ∃ t x, o.op = .load t x ∧ loadx (tq P t) st1 (st1.ev x) (fun y => y = .v v)) ∨ (Region.wanted o (yielded ops a.tmps) = false ∧ v = undef)) : PH P ops ((i, v) :: L) st1 a := by
  intro k u hm
  rcases List.mem_cons.1 hm with he | hm
  · obtain ⟨rfl, rfl⟩ := Prod.mk.inj he
    exact ⟨o, hi, h1⟩
  · exact h k u hm
theorem wpr_form {o : Oper} {a : Act} {w : World} {K : Act → World → Prop} {Q : Exit → Act → World → Prop} (h : wpr P o a w K Q) : wpr P o a w (fun a' w' => (∃ v ds, a' = ({ a with defers := ds } : Act).put o.dst v) ∧ K a' w') Q := by
  refine wpr_run ?_
  replace h : o.uponIn Fence.wide 0 P a K Q ((execOp a.eval o).run P w) := h.2
  generalize (execOp a.eval o).run P w = r at *
  cases r with
  | ok n w' =>
    cases n <;> simp only [Oper.uponIn] at h ⊢
    case value u => exact ⟨⟨u, a.defers, rfl⟩, h⟩
    case skip => exact ⟨⟨undef, a.defers, rfl⟩, h⟩
    case defer d => exact ⟨⟨undef, d :: a.defers, rfl⟩, h⟩
    case enter f args =>
      refine ⟨h.1, CallsIn.mono h.2 fun e w'' he => ?_⟩
      cases e with
      | returned u => exact ⟨⟨u, a.defers, rfl⟩, he⟩
      | panicked c => exact he
      | outgrown => exact he
    case row row args => exact ⟨h.1, RowsIn.mono h.2 fun u w'' he => ⟨⟨u, a.defers, rfl⟩, he⟩⟩
    case round l f tmps assign body =>
      refine ⟨h.1, RoundIn.mono h.2 fun e w'' he => ?_⟩
      cases e with
      | returned u => exact ⟨⟨u, a.defers, rfl⟩, he⟩
      | panicked c => exact he
      | outgrown => exact he
  | halt x w' =>
    cases x <;> simp only [Oper.uponIn] at h ⊢
    case panic u => exact h
theorem oneE_ok {ts : List Nat} {k : St → Prop} {o : Oper} {i : Nat} {st : St} {e : Env} {s : Hp} {a : Act} {w : World} (hi : ops[i]? = some o) (hd : ∀ d, o.dst = some d → d < cx.nt) (h : oneE ts P Qp ops.toList o k st) (hs : Sat1 cx st e s a w) {Q : Exit → Act → World → Prop} (hQ : ∀ ex a' w', Abort cx Qp ex a' w' → Q ex a' w') :
    wpOpIn Fence.wide 0 P ops Q i (fun a' w' => ∃ st1 st' x e' s' v ds, relS ops o st st1 ∧ (st' = st1 ∨ extS ts st1 st') ∧ k (st'.put o.dst x) ∧ Sat1 cx (st'.put o.dst x) e' s' a' w' ∧ a' = ({ a with defers := ds } : Act).put o.dst v) a w := by
  have core : ∀ st1, Sat1 cx st1 e s a w → relS ops o st st1 → oneEA ts P Qp k o.dst o.op st1 → wpr P o a w (fun a' w' => ∃ st1 st' x e' s' v ds, relS ops o st st1 ∧ (st' = st1 ∨ extS ts st1 st') ∧ k (st'.put o.dst x) ∧ Sat1 cx (st'.put o.dst x) e' s' a' w' ∧ a' = ({ a with defers := ds } : Act).put o.dst v) Q := by
    intro st1 hs1 hr h1
    have h2 : wpr P o a w (fun a' w' => ∃ st' x e' s', extS ts st1 st' ∧ k (st'.put o.dst x) ∧ Sat1 cx (st'.put o.dst x) e' s' a' w') Q :=
      wpOp_next (k := oneEK ts k o.dst st1) h1 hs1 hd (fun x st' e' s' a' w' hk hs' => ⟨st', x, e', s', hk.1, hk.2, hs'⟩) hQ
    refine wp_mono2 (fun a' w' h3 => ?_) (fun _ _ _ h => h) (wpr_form h2)
    obtain ⟨⟨v, ds, hv⟩, st', x, e', s', h4, h5, h6⟩ := h3
    exact ⟨st1, st', x, e', s', v, ds, hr, .inr h4, h5, h6, hv⟩
  unfold wpOpIn
  simp only [hi]
  unfold oneE at h
  split at h
  · rename_i hg
    have hw : Region.wanted o (yielded ops a.tmps) = true := by simp [Region.wanted, hg]
    rw [if_pos hw]
    exact core st hs (.inl rfl) h
  · rename_i j want hg
    rcases guard_cases2 hg h hs with ⟨hw, st', h1, h2, hr⟩ | ⟨hw, st', h1, h2, hr⟩
    · rw [if_pos hw]
      exact core st' h2 hr h1
    · rw [if_neg (by simp [hw])]
      exact ⟨fun _ _ => trivial, st', st', _, e, s, undef, a.defers, hr, .inl rfl, h1, h2.put _ (is_v.2 rfl) hd, rfl⟩
theorem keepL_map (i : Nat) (L : List (Nat × Value)) : (keepL ops i L).map (·.1) = (L.map (·.1)).filter (indep ops i) := by
  unfold keepL
  rw [List.filter_map]
  rfl
theorem pn_ok (hd : dstL cx.nt ops.toList = true) (hns : Region.noSelect ops = true) (hQp : ∀ v st, Qp v st → Qp v ⟨[], st.th, st.F⟩) :
    ∀ (p : Pn) (n : Nat) (listed : Array Bool) (L : List (Nat × Value)) (st : St) (e : Env) (s : Hp) (a : Act) (w : World), pnx P Qp ops.toList K p st → Sat1 cx st e s a w → PH P ops L st a →
      (pnOk ops true n listed (L.map (·.1)) p = true → wpAnyL P ops (Lift cx K Qp) L n listed a w) ∧
      (∀ m, n = m + 1 → pnOk ops false n listed (L.map (·.1)) p = true → ∀ i ∈ p.heads, wpOpIn Fence.wide 0 P ops (Lift cx K Qp) i (fun a' w' => HoldL P ops (keepL ops i L) a' w' ∧ wpAnyL P ops (Lift cx K Qp) (keepL ops i L) m (listed.setIfInBounds i true) a' w') a w) := by
  have hdo : ∀ (i : Nat) (o : Oper), ops[i]? = some o → ∀ d, o.dst = some d → d < cx.nt := by
    intro i o hi
    have : ∀ (l : List Oper), dstL cx.nt l = true → ∀ o ∈ l, ∀ d, o.dst = some d → d < cx.nt := by
      intro l
      induction l with
      | nil => intro _ o ho; cases ho
      | cons x l ih =>
        intro h o ho d hd
        simp only [dstL, Bool.and_eq_true] at h
        rcases List.mem_cons.1 ho with rfl | ho
        · rw [hd] at h; simpa using h.1
        · exact ih h.2 o ho d hd
    exact this _ hd o (List.mem_of_getElem? (by rw [Array.getElem?_toList]; exact hi))
  have hQ : ∀ ex a' w', Abort cx Qp ex a' w' → Lift cx K Qp ex a' w' := by
    intro ex a' w' h
    cases ex <;> first | exact h | exact h.elim
  have hQ2 : ∀ (d : Option Tmp) (v : Value) c a w, Lift cx K Qp (.panic c) (a.put d v) w → Lift cx K Qp (.panic c) a w := by
    rintro d v c a w ⟨v', st, hc, h, e, s, hs⟩
    refine ⟨v', _, hc, hQp _ _ h, e, s, { hs with size := ?_, nodef := ?_, tm := fun i x hx => ?_ }⟩
    · have := hs.size
      cases d with
      | none => exact this
      | some d => simpa [Act.put] using this
    · have := hs.nodef
      cases d with
      | none => exact this
      | some d => simpa [Act.put] using this
    · simp [fd] at hx
  have hsel := Region.noSelect_spec hns
  have hix : ∀ {i : Nat} {f : Oper → Prop}, ox (idx ops.toList i) f → ∃ o, ops[i]? = some o ∧ f o := by
    intro i f h
    unfold ox at h
    split at h
    · rename_i o ho
      exact ⟨o, by rw [idx_eq, Array.getElem?_toList] at ho; exact ho, h⟩
    · exact h.elim
  intro p
  induction p with
  | done =>
    intro n listed L st e s a w h hs hP
    refine ⟨fun hk => ?_, fun m _ _ i hi => by cases hi⟩
    have hk1 : Region.ready .any ops listed = [] := by cases n <;> simpa [pnOk] using hk
    cases n with
    | zero => exact ⟨hk1, st, h, e, s, hs⟩
    | succ n => exact ⟨fun _ => ⟨st, h, e, s, hs⟩, by rw [hk1]; simp⟩
  | take i p ih =>
    intro n listed L st e s a w h hs hP
    refine ⟨fun hk => ?_, fun m _ _ i hi => by cases hi⟩
    cases n with
    | zero => simp [pnOk] at hk
    | succ n =>
      simp only [pnOk, Bool.and_eq_true] at hk
      obtain ⟨⟨⟨⟨h1, h2⟩, h3⟩, h5⟩, h4⟩ := hk
      obtain ⟨o, hi, ho⟩ := hix h
      rw [hi] at h3
      obtain ⟨v, st1, x, hy, hr, hk', hs'⟩ := one_pure2 h3 (hdo i o hi) ho hs
      obtain ⟨o1, o2⟩ := offB_spec hi h5
      have hP1 := (hP.rel hr o2).put o1 x v a.defers
      exact wpAnyL_pure hi hsel (hQ2 o.dst v) n L listed a w (Region.free_spec hi h1) (by simpa using h2) ⟨hy, fun w => pure_about h3 w _⟩ (hP.hold hs) o1 ((ih n _ L _ e s _ w hk' hs' hP1).1 h4)
  | load i p ih =>
    intro n listed L st e s a w h hs hP
    refine ⟨fun hk => ?_, fun m _ _ i hi => by cases hi⟩
    cases n with
    | zero => simp [pnOk] at hk
    | succ n =>
      simp only [pnOk, Bool.and_eq_true] at hk
      obtain ⟨⟨⟨⟨h1, h2⟩, h3⟩, h5⟩, h4⟩ := hk
      obtain ⟨o, hi, ho⟩ := hix h
      rw [hi] at h3
      simp only [Bool.and_eq_true] at h3
      obtain ⟨v, st1, x, hy, hr, hk', hs', hs1⟩ := one_load h3.1 (hdo i o hi) ho hs
      obtain ⟨o1, o2⟩ := offB_spec hi h5
      have hself : ∀ t, o.dst = some t → t ∉ o.looksAt ops := by
        intro t ht hin
        have := h3.2
        simp [selfB, ht, hin] at this
      have hPc : PH P ops ((i, v) :: L) st1 a := (hP.rel hr o2).cons hi hy
      have hoff : offL ops o.dst ((i, v) :: L) := by
        intro k u hm ok hok
        rcases List.mem_cons.1 hm with he | hm
        · obtain ⟨rfl, rfl⟩ := Prod.mk.inj he
          rw [hi] at hok
          obtain rfl := Option.some.inj hok
          exact hself
        · exact o1 k u hm ok hok
      have hP1 := hPc.put hoff x v a.defers
      have hya : YieldsAt P ops o v a w := by
        obtain ⟨o', h6, h7⟩ := hPc.hold hs1 i v (by simp)
        rw [hi] at h6
        obtain rfl := Option.some.inj h6
        exact h7
      exact wpAnyL_first hi hsel (hQ2 o.dst v) hself n L listed a w (Region.free_spec hi h1) (by simpa using h2) hya (hP.hold hs) o1 ((ih n _ ((i, v) :: L) _ e s _ w hk' hs' hP1).1 h4)
  | fork i p r ihp ihr =>
    intro n listed L st e s a w h hs hP
    have key : ∀ m, n = m + 1 → pnOk ops false n listed (L.map (·.1)) (.fork i p r) = true → ∀ j ∈ (Pn.fork i p r).heads, wpOpIn Fence.wide 0 P ops (Lift cx K Qp) j (fun a' w' => HoldL P ops (keepL ops j L) a' w' ∧ wpAnyL P ops (Lift cx K Qp) (keepL ops j L) m (listed.setIfInBounds j true) a' w') a w := by
      rintro m rfl hk j hj
      simp only [pnOk, Bool.not_false, Bool.true_or, Bool.true_and, Bool.and_eq_true] at hk
      rcases List.mem_cons.1 hj with rfl | hj
      · obtain ⟨o, hi, ho⟩ := hix h.1
        have hnil : keepL ops j L = [] := by
          have h1 := hk.1.1
          rw [← keepL_map] at h1
          cases hL : keepL ops j L with
          | nil => rfl
          | cons x l => rw [hL] at h1; simp at h1
        rw [hnil]
        exact wpOpIn_mono (fun a' w' ⟨st', e', s', h1, h2⟩ => ⟨fun _ _ hm => absurd hm (by simp), (ihp m _ [] st' e' s' a' w' h1 h2 (fun _ _ hm => absurd hm (by simp))).1 hk.1.2⟩) (one_ok hi (hdo j o hi) ho hs hQ)
      · exact (ihr (m + 1) listed L st e s a w h.2 hs hP).2 m rfl hk.2 j hj
    refine ⟨fun hk => ?_, key⟩
    cases n with
    | zero => simp [pnOk] at hk
    | succ n =>
      simp only [pnOk, Bool.not_true, Bool.false_or, Bool.and_eq_true] at hk
      obtain ⟨⟨⟨⟨h0, h1⟩, h5⟩, h2⟩, h3⟩ := hk
      refine ⟨fun hr => by simp [hr] at h0, fun j hj => key n rfl ?_ j ?_⟩
      · simp only [pnOk, Bool.not_false, Bool.true_or, Bool.true_and, Bool.and_eq_true]; exact ⟨⟨h5, h2⟩, h3⟩
      · have := List.all_eq_true.1 h1 j hj
        simpa [Pn.heads] using this
  | forkE i ts p r ihp ihr =>
    intro n listed L st e s a w h hs hP
    have key : ∀ m, n = m + 1 → pnOk ops false n listed (L.map (·.1)) (.forkE i ts p r) = true → ∀ j ∈ (Pn.forkE i ts p r).heads, wpOpIn Fence.wide 0 P ops (Lift cx K Qp) j (fun a' w' => HoldL P ops (keepL ops j L) a' w' ∧ wpAnyL P ops (Lift cx K Qp) (keepL ops j L) m (listed.setIfInBounds j true) a' w') a w := by
      rintro m rfl hk j hj
      simp only [pnOk, Bool.not_false, Bool.true_or, Bool.true_and, Bool.and_eq_true] at hk
      rcases List.mem_cons.1 hj with rfl | hj
      · obtain ⟨o, hi, ho⟩ := hix h.1
        rw [← keepL_map] at hk
        obtain ⟨o1, o2⟩ := offB_spec hi hk.1.1.1
        have hPk : PH P ops (keepL ops j L) st a := fun k u hm => hP k u (keepL_le _ hm)
        refine wpOpIn_mono (fun a' w' => ?_) (oneE_ok hi (hdo j o hi) ho hs hQ)
        rintro ⟨st1, st', x, e', s', v, ds, hr, hx, hk', hs', rfl⟩
        have hP1 := hPk.rel hr o2
        have hP2 : PH P ops (keepL ops j L) st' a := by
          rcases hx with rfl | hx
          · exact hP1
          · exact hP1.ext hx hk.1.1.2
        have hP3 := hP2.put o1 x v ds
        exact ⟨hP3.hold hs', (ihp m _ (keepL ops j L) _ e' s' _ w' hk' hs' hP3).1 hk.1.2⟩
      · exact (ihr (m + 1) listed L st e s a w h.2 hs hP).2 m rfl hk.2 j hj
    refine ⟨fun hk => ?_, key⟩
    cases n with
    | zero => simp [pnOk] at hk
    | succ n =>
      simp only [pnOk, Bool.not_true, Bool.false_or, Bool.and_eq_true] at hk
      obtain ⟨⟨⟨⟨h0, h1⟩, ⟨h5, h6⟩⟩, h2⟩, h3⟩ := hk
      refine ⟨fun hr => by simp [hr] at h0, fun j hj => key n rfl ?_ j ?_⟩
      · simp only [pnOk, Bool.not_false, Bool.true_or, Bool.true_and, Bool.and_eq_true]; exact ⟨⟨⟨h5, h6⟩, h2⟩, h3⟩
      · have := List.all_eq_true.1 h1 j hj
        simpa [Pn.heads] using this
  | stop =>
    intro n listed L st e s a w h hs hP
    exact ⟨fun hk => by cases n <;> simp [pnOk] at hk, fun m _ _ i hi => by cases hi⟩
end
theorem SC.drawnP {P : Program} {nt : Nat} {Q : SEx → St → Prop} {st : St} {id : Nat} {ops : Array Oper} (p : Pn) (hm : P.follows .mixedOrders = true) (hp : (Region.noSelect ops && pnOk ops true ops.size (Array.replicate ops.size false) [] p) = true) (hQ : ∀ v st, Q (.pan v) st → Q (.pan v) ⟨[], st.th, st.F⟩)
    (h : pnx P (panQ Q) ops.toList (Q .nrm) p st) : SC P nt (.region id ops true) st Q := by
  intro cx hn hok a w hs
  obtain ⟨e, s, hs⟩ := hs
  rw [Bool.and_eq_true] at hp
  refine wp_mono ((wpIn_wide (n := 0)).1 (wpIn_region_any (Q := Lift cx (Q .nrm) (panQ Q)) hm (wpAnyL_any _ [] _ _ _ ((pn_ok (Qp := panQ Q) (K := Q .nrm) (by rw [hn]; exact hok) hp.1 hQ p ops.size _ [] st e s a _ h hs.drawn (fun _ _ hm => by cases hm)).1 hp.2)))) fun e a w hq => ?_
  cases e <;> first | exact hq | exact hq.elim
/-- What follows, known both ways. -/
theorem SC.seqM {P : Program} {nt : Nat} {Q : SEx → St → Prop} {st : St} {x y : Code} (tl : List Nat) (kl : List Key) (h : ∀ K : St → Prop, (∀ st, SC P nt y st Q → K st) → (∀ st, K st → SC P nt y st Q) → SC P nt x st (thenK (fun st => K (st.norm tl kl)) Q)) : SC P nt (.seq x y) st Q :=
  SC.seqK fun K hK => SC.mono (h (fun st => SC P nt y st Q) (fun _ h => h) (fun _ h => h)) fun e st he => by
    cases e with
    | nrm => exact hK st (SC.norm tl kl he)
    | ext id => exact he
    | ret => exact he
    | pan v => exact he
end Go.Proofs.YtmamodnpghlgcaaDoor
/- playlist.At, the specification's At and fork. -/

set_option linter.unusedSimpArgs false
set_option linter.unusedVariables false
set_option maxRecDepth 100000
set_option maxHeartbeats 4000000
namespace Go.Proofs.YtmamodnpghlgcaaDoor
open Go.RowKit
def inB (s : Seg) (t : Int) : Bool := decide (s.beg ≤ t) && decide (t < s.fin)
def atM (l : List Seg) (t : Int) : Option Seg := l.find? fun s => inB s t
theorem atM_none {l : List Seg} {t : Int} (h : ∀ (j : Nat) s, l[j]? = some s → inB s t = false) : atM l t = none := by
  simp only [atM, List.find?_eq_none]
  intro s hs
  obtain ⟨j, hj⟩ := List.getElem?_of_mem hs
  simp [h j s hj]
theorem atM_some {l : List Seg} {t : Int} {i : Nat} (hi : i < l.length) (h : inB l[i] t = true) (hb : ∀ j (hj : j < i), inB l[j] t = false) : atM l t = some l[i] := by
  simp only [atM, List.find?_eq_some_iff_getElem]
  exact ⟨h, i, hi, rfl, fun j hj => by simp [hb j hj]⟩
end Go.Proofs.YtmamodnpghlgcaaDoor
/- The specification's fork. -/

set_option linter.unusedSimpArgs false
set_option linter.unusedVariables false
set_option maxRecDepth 100000
set_option maxHeartbeats 4000000
namespace Go.Proofs.YtmamodnpghlgcaaDoor
open Go.RowKit
def clash (l : List Seg) (s : Seg) : Bool := match findM l s.num with | some x => !segEqB x s | none => false
def errI : Option Seg → Int
  | some _ => 0
  | none => 5
def forkE (e p : Pl) : Bool := decide (0 < e.l.length) && (decide (0 < p.l.length) && (decide (e.next = p.first) && (match p.l[0]? with | some s => decide (e.edge ≠ s.beg) | none => false)))
def forkB (e p : Pl) : Bool := e.l.any (clash p.l) || ((e.done && decide (e.next < p.next)) || forkE e p)
theorem gotV_ex (o : Option Seg) : ∃ x r, gotV o = .agg (segC x ++ [Value.int .i64 r]).toArray ∧ (match o with | some y => y = x ∧ r = 0 | none => r = 5) := by
  cases o with
  | none => exact ⟨seg0, 5, rfl, rfl⟩
  | some y => exact ⟨y, 0, rfl, rfl, rfl⟩
theorem neSeg {k : SV → Prop} (s t : Seg) (h : k (.q (!segEqB s t))) : neL Tryd.prog 40 (segC s).toArray (segC t).toArray k := ⟨_, segEq s t, h⟩
theorem eqSeg {k : SV → Prop} (s t : Seg) (h : k (.q (segEqB s t))) : eqL Tryd.prog 40 (segC s).toArray (segC t).toArray k := ⟨_, segEq s t, h⟩
theorem any_clash {l m : List Seg} (h : ∀ (j : Nat) s, l[j]? = some s → clash m s = false) : l.any (clash m) = false := by
  rw [List.any_eq_false]
  intro s hs
  obtain ⟨j, hj⟩ := List.getElem?_of_mem hs
  simp [h j s hj]
end Go.Proofs.YtmamodnpghlgcaaDoor
/- slices.Clone over segments. -/

set_option linter.unusedSimpArgs false
set_option linter.unusedVariables false
set_option maxRecDepth 100000
set_option maxHeartbeats 4000000
namespace Go.Proofs.YtmamodnpghlgcaaDoor
open Go.RowKit
theorem segC_one (s : Seg) : ∀ y ∈ segC s, y.oneCell' = true := by
  intro y hy
  simp only [segC, List.mem_cons, List.not_mem_nil, or_false] at hy
  rcases hy with rfl | rfl | rfl | rfl | rfl | rfl | rfl | rfl | rfl | rfl | rfl | rfl | rfl | rfl | rfl | rfl | rfl | rfl | rfl | rfl <;> rfl
theorem segsC_one : ∀ l : List Seg, ∀ y ∈ segsC l, y.oneCell' = true
  | [], y, hy => by simp [segsC] at hy
  | s :: l, y, hy => by
    simp only [segsC, List.mem_append] at hy
    rcases hy with hy | hy
    · exact segC_one s y hy
    · exact segsC_one l y hy
/-- Segments out of what never turns, appended. -/
theorem apF_segs {q : SQ} {d : Nat} {th0 : List (Key × Thing)} {n : Nat} {xs : List Value} {a : Option Addr} {m : Nat} {st : St} {k : SV → St → Prop} (l : List Seg) (h : st.F.to (rowF a (segsC l))) (hm : m = l.length) (hsz : q.sz = 20) (hb : n + m ≤ maxLen ∧ (n + m) * q.by' ≤ 140737488355328)
    (hk : newRow (.l d) q.e q.sz (n + m) (xs ++ segsC l) { st with th := th0 } k) : apF q d th0 n xs a m st k :=
  ⟨segsC l, h, ⟨by rw [segsC_length, hm, hsz], segsC_one l, hb⟩, hk⟩
theorem Fn.ex {P : Program} {f : FuncId} {args : List Value} {F : Fact} {R : Value → Fact → Prop} (h : (∃ s, F.p s) → Fn P f args F R) : Fn P f args F R := fun s w hi hF => h ⟨s, hF⟩ s w hi hF
theorem row_nil {F : Fact} {a : Option Addr} {l : List Seg} (hF : F.to (rowF a (segsC l))) (h : ∃ s, F.p s) (ha : a.isNone = true) : l = [] := by
  obtain ⟨s, hs⟩ := h
  rcases hF s hs with h1 | ⟨ad, h1, _⟩
  · have := segsC_length l
    rw [h1] at this
    simp at this
    exact List.eq_nil_of_length_eq_zero (by omega)
  · rw [h1] at ha; cases ha
theorem mxl : maxLen = 9223372036854775807 := rfl
theorem clone_fn (l : List Seg) (a : Option Addr) (c : Nat) (F : Fact) (hF : F.to (rowF a (segsC l))) (hl : l.length < 1000000) (hc : l.length ≤ c) : Fn Tryd.prog 28 [.slice a l.length c] F fun v G => ∃ a' c', v = .slice a' l.length c' ∧ l.length ≤ c' ∧ G.to (rowF a' (segsC l)) := by
  refine Fn.ex fun hex => ?_
  refine Fn.of_body Tryd.func28 rfl (Nat.le_of_ble_eq_true rfl) (Nat.le_of_ble_eq_true rfl) (by kernel_rfl) ?_
  refine SC.seqN [0] [.l 5, .l 7] fun K1 hK1 => SC.region ?_
  simp -implicitDefEqProofs only [push_cast, ↓reduceIte, Nat.reduceEqDiff, Nat.reduceAdd, Nat.reduceMul, Nat.reduceSub, Nat.reduceLeDiff, Nat.reduceLT, reduceCtorEq]
  refine hK1 _ ?_
  clear hK1
  refine SC.seqN [0] [.l 5, .l 7] fun K2 hK2 => ?_
  refine SC.seqN [0, 4] [.l 5, .l 7] fun K3 hK3 => SC.region ?_
  simp -implicitDefEqProofs only [push_cast, ↓reduceIte, Nat.reduceEqDiff, Nat.reduceAdd, Nat.reduceMul, Nat.reduceSub, Nat.reduceLeDiff, Nat.reduceLT, reduceCtorEq]
  refine hK3 _ ?_
  clear hK3
  refine SC.cond ?_
  simp -implicitDefEqProofs only [push_cast, ↓reduceIte, Nat.reduceEqDiff, Nat.reduceAdd, Nat.reduceMul, Nat.reduceSub, Nat.reduceLeDiff, Nat.reduceLT, reduceCtorEq]
  refine ⟨fun h1 => ?_, fun h1 => ?_⟩
  · skip
    refine SC.seqN [2] [.l 5, .l 7] fun K4 hK4 => SC.region ?_
    simp -implicitDefEqProofs only [push_cast, ↓reduceIte, Nat.reduceEqDiff, Nat.reduceAdd, Nat.reduceMul, Nat.reduceSub, Nat.reduceLeDiff, Nat.reduceLT, reduceCtorEq]
    refine hK4 _ ?_
    clear hK4
    refine SC.ret ?_
    simp -implicitDefEqProofs only [push_cast, ↓reduceIte, Nat.reduceEqDiff, Nat.reduceAdd, Nat.reduceMul, Nat.reduceSub, Nat.reduceLeDiff, Nat.reduceLT, reduceCtorEq, Tryd.f28]
    have hn := row_nil hF hex h1
    subst hn
    exact ⟨none, 0, rfl, Nat.le_refl _, rowF_nil _ _⟩
  · skip
    refine SC.skip ?_
    simp -implicitDefEqProofs only [push_cast, ↓reduceIte, Nat.reduceEqDiff, Nat.reduceAdd, Nat.reduceMul, Nat.reduceSub, Nat.reduceLeDiff, Nat.reduceLT, reduceCtorEq]
    refine hK2 _ ?_
    clear hK2
    refine SC.seqN [2] [.l 5, .l 7] fun K5 hK5 => SC.region ?_
    simp -implicitDefEqProofs only [push_cast, ↓reduceIte, Nat.reduceEqDiff, Nat.reduceAdd, Nat.reduceMul, Nat.reduceSub, Nat.reduceLeDiff, Nat.reduceLT, reduceCtorEq]
    refine apF_segs l hF rfl rfl ⟨by rw [mxl]; omega, by simp only [Nat.zero_add]; omega⟩ ?_
    simp -implicitDefEqProofs only [push_cast, ↓reduceIte, Nat.reduceEqDiff, Nat.reduceAdd, Nat.reduceMul, Nat.reduceSub, Nat.reduceLeDiff, Nat.reduceLT, reduceCtorEq]
    refine hK5 _ ?_
    clear hK5
    refine SC.frzRow (k := .l 7) rfl (segsC_length l) fun a' b cp hcp => ?_
    simp -implicitDefEqProofs only [push_cast, ↓reduceIte, Nat.reduceEqDiff, Nat.reduceAdd, Nat.reduceMul, Nat.reduceSub, Nat.reduceLeDiff, Nat.reduceLT, reduceCtorEq]
    refine SC.ret ?_
    simp -implicitDefEqProofs only [push_cast, ↓reduceIte, Nat.reduceEqDiff, Nat.reduceAdd, Nat.reduceMul, Nat.reduceSub, Nat.reduceLeDiff, Nat.reduceLT, reduceCtorEq, Tryd.f28]
    exact ⟨a', cp, rfl, hcp, Fact.to_right (Fact.to_refl _)⟩
end Go.Proofs.YtmamodnpghlgcaaDoor
/- Contracts of functions that may panic, and of functions that hand back a slice of their own. -/
set_option linter.unusedVariables false
set_option linter.unusedSimpArgs false
namespace Go.Proofs.YtmamodnpghlgcaaDoor
open Go.RowKit

/-! ### A slice that the function has made -/
def FnPostR (t : TypeId) (sz n : Nat) (xs : List Value) (s : Hp) (w : World) : Ending → World → Prop
  | .returned v, w' => ∃ s', Grew s w .tt s' w' ∧ w'.ownsRow w.heap.size t sz v n xs ∧ (∀ g, v.ownBlock = some g → ¬ s'.has g)
  | .panicked _, _ => False
  | .outgrown, _ => False
def FnR (P : Program) (f : FuncId) (args : List Value) (F : Fact) (t : TypeId) (sz n : Nat) (xs : List Value) : Prop :=
  ∀ s w, s.inw w → F.p s → Calls P f args.toArray w (FnPostR t sz n xs s w)
theorem ownsRow_slice {w : World} {n0 t sz n : Nat} {v : Value} {xs : List Value} (h : w.ownsRow n0 t sz v n xs) : ∃ b m c, v = .slice b m c := by
  rcases h.2 with ⟨hv, _⟩ | ⟨g, cap, cur, hv, _⟩
  · exact ⟨_, _, _, hv⟩
  · exact ⟨_, _, _, hv⟩
theorem ownsRow_from {w : World} {n0 n1 t sz n : Nat} {v : Value} {xs : List Value} (h : w.ownsRow n0 t sz v n xs) (hg : ∀ g, v.ownBlock = some g → n1 ≤ g) : w.ownsRow n1 t sz v n xs :=
  ⟨h.1, h.2.imp id fun ⟨g, cap, cur, hv, _, r⟩ => ⟨g, cap, cur, hv, hg g (by rw [hv]; rfl), r⟩⟩
theorem callL_fnR {P : Program} {f : FuncId} {args : List SV} {vs : List Value} {F : Fact} {t sz n : Nat} {xs : List Value} {st : St} {k : SV → St → Prop} {Qp : Value → St → Prop} (d : Nat) (hf : FnR P f vs F t sz n xs) (hv : vals args = some vs) (hF : ∀ s, st.F.p s → F.p s)
    (hN : fd st.th (.l d) = none ∧ nmA (.l d) st.tm ∧ nmB (.l d) st.th) (hk : k (.row (.l d)) { st with th := up st.th (.l d) (.row t sz n xs) }) : callL P f args st k Qp := by
  refine ⟨?_⟩
  intro cx e s a w us hs hl
  have := vals_spec (e := e) hv
  rw [this] at hl
  have hu := SV.isL_map_eq vs hl
  subst hu
  obtain ⟨hN1, hA, hB⟩ := hN
  refine (hf s w hs.inw (hF s hs.fact)).mono fun en w' hp => ?_
  cases en with
  | returned v =>
    obtain ⟨s', hg, hrow, hfree⟩ := hp
    have hb := hg.below
    have hlt : ∀ g, v.ownBlock = some g → w.heap.size ≤ g := by
      intro g hg'
      rcases hrow.2 with ⟨hv', _⟩ | ⟨g', cap, cur, hv', h1, _⟩
      · rw [hv'] at hg'; cases hg'
      · rw [hv'] at hg'; obtain rfl := Option.some.inj hg'; exact h1
    obtain ⟨e', h1, h2, h3⟩ := hs.newRowAt (th0 := st.th) (fun _ _ h => h) hA hB (ownsRow_from hrow fun _ _ => Nat.zero_le _) (ownsRow_slice hrow) (fun g hg' hne => hb.block g hg') (fun g hg' => .inl (hlt g hg')) hb.os hb.tape hb.output hb.size
    refine ⟨_, _, e', s', hk, ?_, h2⟩
    refine { h1 with own := ⟨h1.own.holds, h1.own.apart, ?_⟩, inw := hg.inw, ge := Hp.le_trans h1.ge hg.le, new := fun g hs' => (hg.new g hs').elim (h1.new g) (fun h4 => .inr (.inl (Nat.le_trans hs.grow h4))), fact := st.F.mono _ _ hg.le hs.fact }
    intro k' u g hk' hgk hs'
    rw [fd_up] at hk'
    split at hk'
    · rename_i hd
      subst hd
      obtain rfl := Option.some.inj hk'
      simp only [SV.is] at h2
      simp only [Thing.blk] at hgk
      rw [← h2.1] at hgk
      exact hfree g hgk hs'
    · rename_i hd
      rw [h3 k' u hd] at hgk
      rcases hg.new g hs' with h4 | h4
      · exact hs.own.free k' u g hk' hgk h4
      · have := Thing.blk_lt (hs.own.holds k' u hk') hgk
        omega
  | panicked c => exact hp.elim
  | outgrown => exact hp.elim
def fnQR (P : Program) (rs : Array ResultVar) (t : TypeId) (sz n : Nat) (xs : List Value) : SEx → St → Prop
  | .ret, st => ∃ r k, rs = #[.tmp r] ∧ st.ev (.tmp r) = .row k ∧ fd st.th k = some (.row t sz n xs)
  | _, _ => False
theorem fnQR_ret (P : Program) (rs : Array ResultVar) (t : TypeId) (sz n : Nat) (xs : List Value) (st : St) : fnQR P rs t sz n xs .ret st = ∃ r k, rs = #[.tmp r] ∧ st.ev (.tmp r) = .row k ∧ fd st.th k = some (.row t sz n xs) := rfl
theorem Cx.start {P : Program} (w : World) (s : Hp) (fn : Func) (args : List Value) (F : Fact) (hin : s.inw w) (hF : F.p s) (hn : args.length ≤ fn.ntmps) (hnb : fn.ntmps ≤ 1000000) :
    Sat1 ⟨w, s, fn.ntmps, [], fun _ => undef, []⟩ ⟨tm0 0 args, [], F⟩ Env.start s { tmps := args.toArray ++ Array.replicate (fn.ntmps - args.toArray.size) undef, defers := [] } w := by
  refine { size := ?_, ntB := hnb, nodef := rfl, tm := ?_, own := ⟨fun k t h => by simp [fd] at h, fun k k' t t' g h => by simp [fd] at h, fun k t g h => by simp [fd] at h⟩, fresh := fun k t g h => by simp [fd] at h, inw := hin, ge := Hp.le_refl s, new := fun g h => .inl h, fact := hF, os := rfl, tape := rfl, output := rfl, grow := Nat.le_refl _, frame := fun _ _ _ => rfl, borB := (fun _ _ h => by cases h), bnB := fun _ => rfl }
  · simp only [Array.size_append, List.size_toArray, Array.size_replicate]; omega
  · intro i x hx
    obtain ⟨v, rfl, _, hv⟩ := fd_tm0 args 0 i x hx
    rw [Nat.sub_zero] at hv
    have hlt := (List.getElem?_eq_some_iff.1 hv).1
    rw [is_v, Cx.slot, if_pos (by omega), Array.getD_eq_getD_getElem?, Array.getElem?_append_left (by simpa using hlt)]
    simp [hv]
theorem FnR.of_body {P : Program} {f : FuncId} {fn : Func} {c : Code} {args : List Value} {F : Fact} {t sz n : Nat} {xs : List Value} (hf : P.funcs[f]? = some fn) (hb : fn.body = some c) (hn : args.length ≤ fn.ntmps) (hnb : fn.ntmps ≤ 1000000) (hok : okC fn.ntmps c = true)
    (h : SC P fn.ntmps c ⟨tm0 0 args, [], F⟩ (fnQR P fn.results t sz n xs)) : FnR P f args F t sz n xs := by
  intro s w hin hF
  refine calls_of_wp hf hb ?_
  refine wp_mono (h ⟨w, s, fn.ntmps, [], fun _ => undef, []⟩ rfl hok _ w ⟨_, s, Cx.start (P := P) w s fn args F hin hF hn hnb⟩) fun e a' w' hq => ?_
  cases e with
  | ret =>
    obtain ⟨st, ⟨r, k, h1, h2, h3⟩, e', s', hs'⟩ := hq
    have hx := hs'.ev (.tmp r)
    rw [h2] at hx
    simp only [SV.is, Act.eval] at hx
    have hh := hs'.own.holds k _ h3
    have hfr : ∀ g, (e'.R k).ownBlock = some g → w.heap.size ≤ g := fun g hg => by
      rcases hs'.fresh k _ g h3 hg with h5 | ⟨n', h5⟩
      · exact h5
      · cases h5
    refine ⟨hs'.nodef, e'.R k, ?_, s', ⟨hs'.ge, hs'.inw, trivial, ?_, ⟨hs'.os, hs'.tape, hs'.output, hs'.grow, fun g hg => hs'.frame g hg (fun n hn => by cases hn)⟩⟩, ownsRow_from hh.1 hfr, fun g hg => hs'.own.free k _ g h3 hg⟩
    · rw [← hx.1]
      exact results_tmp h1 _ _ _
    · intro g hg
      rcases hs'.new g hg with h5 | h5 | ⟨n, h5⟩
      · exact .inl h5
      · exact .inr h5
      · cases h5
  | normal => obtain ⟨st, h1, h2⟩ := hq; exact h1.elim
  | exit id => obtain ⟨st, h1, h2⟩ := hq; exact h1.elim
  | panic c => obtain ⟨v, st, _, h1, h2⟩ := hq; exact h1.elim
  | outgrown => exact hq.elim
  | goto l => exact hq.elim

/-! ### Functions that may panic -/
def FnPostE (R : Value → Fact → Prop) (Pn : Value → Prop) (s : Hp) (w : World) : Ending → World → Prop
  | .returned v, w' => ∃ G s', R v G ∧ Grew s w G s' w'
  | .panicked c, w' => ∃ v s', c = [{ v := v, recovered := false }] ∧ Pn v ∧ Grew s w .tt s' w'
  | .outgrown, _ => False
def FnE (P : Program) (f : FuncId) (args : List Value) (F : Fact) (R : Value → Fact → Prop) (Pn : Value → Prop) : Prop :=
  ∀ s w, s.inw w → F.p s → Calls P f args.toArray w (FnPostE R Pn s w)
theorem callL_fnE {P : Program} {f : FuncId} {args : List SV} {vs : List Value} {F : Fact} {R : Value → Fact → Prop} {Pn : Value → Prop} {st : St} {k : SV → St → Prop} {Qp : Value → St → Prop} (hf : FnE P f vs F R Pn) (hv : vals args = some vs) (hF : ∀ s, st.F.p s → F.p s)
    (hk : ∀ v G, R v G → k (.v v) { st with F := st.F.and G }) (hp : ∀ v, Pn v → Qp v st) : callL P f args st k Qp := by
  refine ⟨?_⟩
  intro cx e s a w us hs hl
  have := vals_spec (e := e) hv
  rw [this] at hl
  have hu := SV.isL_map_eq vs hl
  subst hu
  refine (hf s w hs.inw (hF s hs.fact)).mono fun en w' hq => ?_
  cases en with
  | returned v =>
    obtain ⟨G, s', h1, h2⟩ := hq
    exact ⟨_, _, e, s', hk v G h1, hs.grew h2, by simp [SV.is]⟩
  | panicked c =>
    obtain ⟨v, s', h1, h2, h3⟩ := hq
    have h4 := hs.grew h3
    exact ⟨v, st, e, s', h1, hp v h2, { h4 with fact := h4.fact.1 }⟩
  | outgrown => exact hq.elim
/-- The same, where nothing that the function makes is asked for. -/
theorem callL_fnE0 {P : Program} {f : FuncId} {args : List SV} {vs : List Value} {F : Fact} {R : Value → Fact → Prop} {Pn : Value → Prop} {st : St} {k : SV → St → Prop} {Qp : Value → St → Prop} (hf : FnE P f vs F R Pn) (hv : vals args = some vs) (hF : ∀ s, st.F.p s → F.p s)
    (hk : ∀ v G, R v G → k (.v v) st) (hp : ∀ v, Pn v → Qp v st) : callL P f args st k Qp := by
  refine ⟨?_⟩
  intro cx e s a w us hs hl
  have := vals_spec (e := e) hv
  rw [this] at hl
  have hu := SV.isL_map_eq vs hl
  subst hu
  refine (hf s w hs.inw (hF s hs.fact)).mono fun en w' hq => ?_
  cases en with
  | returned v =>
    obtain ⟨G, s', h1, h2⟩ := hq
    have h4 := hs.grew h2
    exact ⟨_, st, e, s', hk v G h1, { h4 with fact := h4.fact.1 }, by simp [SV.is]⟩
  | panicked c =>
    obtain ⟨v, s', h1, h2, h3⟩ := hq
    have h4 := hs.grew h3
    exact ⟨v, st, e, s', h1, hp v h2, { h4 with fact := h4.fact.1 }⟩
  | outgrown => exact hq.elim
def fnQE (P : Program) (rs : Array ResultVar) (R : Value → Fact → Prop) (Pn : Value → Prop) : SEx → St → Prop
  | .nrm, st => rsx P st rs.toList (outV fun v => R v st.F) []
  | .ret, st => rsx P st rs.toList (outV fun v => R v st.F) []
  | .pan v, _ => Pn v
  | _, _ => False
theorem fnQE_nrm (P : Program) (rs : Array ResultVar) (R : Value → Fact → Prop) (Pn : Value → Prop) (st : St) : fnQE P rs R Pn .nrm st = rsx P st rs.toList (outV fun v => R v st.F) [] := rfl
theorem fnQE_ret (P : Program) (rs : Array ResultVar) (R : Value → Fact → Prop) (Pn : Value → Prop) (st : St) : fnQE P rs R Pn .ret st = rsx P st rs.toList (outV fun v => R v st.F) [] := rfl
theorem fnQE_pan (P : Program) (rs : Array ResultVar) (R : Value → Fact → Prop) (Pn : Value → Prop) (v : Value) (st : St) : fnQE P rs R Pn (.pan v) st = Pn v := rfl
theorem FnE.of_body {P : Program} {f : FuncId} {fn : Func} {c : Code} {args : List Value} {F : Fact} {R : Value → Fact → Prop} {Pn : Value → Prop} (hf : P.funcs[f]? = some fn) (hb : fn.body = some c) (hn : args.length ≤ fn.ntmps) (hnb : fn.ntmps ≤ 1000000) (hok : okC fn.ntmps c = true)
    (h : SC P fn.ntmps c ⟨tm0 0 args, [], F⟩ (fnQE P fn.results R Pn)) : FnE P f args F R Pn := by
  intro s w hin hF
  refine calls_of_wp hf hb ?_
  refine wp_mono (h ⟨w, s, fn.ntmps, [], fun _ => undef, []⟩ rfl hok _ w ⟨_, s, Cx.start (P := P) w s fn args F hin hF hn hnb⟩) fun e a' w' hq => ?_
  have grew : ∀ {st : St} {e' : Env} {s' : Hp}, Sat1 ⟨w, s, fn.ntmps, [], fun _ => undef, []⟩ st e' s' a' w' → Grew s w st.F s' w' := by
    intro st e' s' hs'
    refine ⟨hs'.ge, hs'.inw, hs'.fact, ?_, ⟨hs'.os, hs'.tape, hs'.output, hs'.grow, fun g hg => hs'.frame g hg (fun n hn => by cases hn)⟩⟩
    intro g hg
    rcases hs'.new g hg with h5 | h5 | ⟨n, h5⟩
    · exact .inl h5
    · exact .inr h5
    · cases h5
  have fin : ∀ st, rsx P st fn.results.toList (outV fun v => R v st.F) [] → Sat ⟨w, s, fn.ntmps, [], fun _ => undef, []⟩ st a' w' → a'.defers = [] ∧ ∃ v, (results fn a'.tmps).run P w' = .ok v w' ∧ FnPostE R Pn s w (.returned v) w' := by
    rintro st h1 ⟨e', s', hs'⟩
    refine ⟨hs'.nodef, ?_⟩
    obtain ⟨l', ys, h2, h3, h4⟩ := rsx_run hs' fn.results.toList _ [] [] (by simp [SV.isL]) h1
    unfold outV at h2
    split at h2
    · rename_i vs hv
      rw [vals_spec (e := e') hv, List.nil_append] at h3
      have := SV.isL_map_eq vs h3
      subst this
      refine ⟨tupV ys, ?_, st.F, s', h2, grew hs'⟩
      unfold results
      rw [Sem.run_bind]
      have hm : (fn.results.mapM (resF a'.tmps)).run P w' = .ok ys.toArray w' := by
        rw [Array.mapM_eq_mapM_toList, ← bind_pure_comp, Sem.run_bind, h4]; rfl
      change ((Sem.run P (Array.mapM (resF a'.tmps) fn.results) w').andThen _) = _
      rw [hm]
      simp only [Result.andThen_ok, Sem.run_pure]
      congr 1
      cases ys with
      | nil => rfl
      | cons y l => cases l with
        | nil => rfl
        | cons z l => simp [tupV]
    · exact h2.elim
  cases e with
  | normal => obtain ⟨st, h1, h2⟩ := hq; exact fin st h1 h2
  | ret => obtain ⟨st, h1, h2⟩ := hq; exact fin st h1 h2
  | exit id => obtain ⟨st, h1, h2⟩ := hq; exact h1.elim
  | panic c =>
    obtain ⟨v, st, hc, h1, e', s', h2⟩ := hq
    have hg := grew h2
    exact ⟨h2.nodef, v, s', hc, h1, ⟨hg.le, hg.inw, trivial, hg.new, hg.below⟩⟩
  | outgrown => exact hq.elim
  | goto l => exact hq.elim
theorem vals_row (k : Key) (l : List SV) : vals (.row k :: l) = none := rfl
theorem vals_own (k : Key) (o : Nat) (l : List SV) : vals (.own k o :: l) = none := rfl
theorem vals_elt (k : Key) (o : Nat) (l : List SV) : vals (.elt k o :: l) = none := rfl
theorem vals_clo (f : Go.Fn) (cs l : List SV) : vals (.clo f cs :: l) = none := rfl
theorem vals_agg (cs l : List SV) : vals (.agg cs :: l) = none := rfl
theorem vals_mp (k : Key) (l : List SV) : vals (.mp k :: l) = none := rfl
attribute [push_cast] vals_row vals_own vals_elt vals_clo vals_agg vals_mp fnQE_nrm fnQE_ret fnQE_pan
end Go.Proofs.YtmamodnpghlgcaaDoor
/- slices.Clone over segments, as a slice of its own. -/

set_option linter.unusedSimpArgs false
set_option linter.unusedVariables false
set_option maxRecDepth 100000
set_option maxHeartbeats 4000000
namespace Go.Proofs.YtmamodnpghlgcaaDoor
open Go.RowKit
theorem cloneN_fn (F : Fact) (n c : Nat) : Fn Tryd.prog 28 [.slice none n c] F fun v G => v = .slice none 0 0 := by
  have h1 : True := trivial
  refine Fn.of_body Tryd.func28 rfl (Nat.le_of_ble_eq_true rfl) (Nat.le_of_ble_eq_true rfl) (by kernel_rfl) ?_
  refine SC.seqN [0] [.l 5, .l 7] fun K1 hK1 => SC.region ?_
  simp -implicitDefEqProofs only [push_cast, ↓reduceIte, Nat.reduceEqDiff, Nat.reduceAdd, Nat.reduceMul, Nat.reduceSub, Nat.reduceLeDiff, Nat.reduceLT, reduceCtorEq]
  refine hK1 _ ?_
  refine SC.seqN [0] [.l 5, .l 7] fun K2 hK2 => ?_
  refine SC.seqN [0, 4] [.l 5, .l 7] fun K3 hK3 => SC.region ?_
  simp -implicitDefEqProofs only [push_cast, ↓reduceIte, Nat.reduceEqDiff, Nat.reduceAdd, Nat.reduceMul, Nat.reduceSub, Nat.reduceLeDiff, Nat.reduceLT, reduceCtorEq, Option.isNone_none]
  refine hK3 _ ?_
  refine SC.cond ?_
  simp -implicitDefEqProofs only [push_cast, ↓reduceIte, Nat.reduceEqDiff, Nat.reduceAdd, Nat.reduceMul, Nat.reduceSub, Nat.reduceLeDiff, Nat.reduceLT, reduceCtorEq]
  refine SC.seqN [2] [.l 5, .l 7] fun K4 hK4 => SC.region ?_
  simp -implicitDefEqProofs only [push_cast, ↓reduceIte, Nat.reduceEqDiff, Nat.reduceAdd, Nat.reduceMul, Nat.reduceSub, Nat.reduceLeDiff, Nat.reduceLT, reduceCtorEq]
  refine hK4 _ ?_
  refine SC.ret ?_
  simp -implicitDefEqProofs only [push_cast, ↓reduceIte, Nat.reduceEqDiff, Nat.reduceAdd, Nat.reduceMul, Nat.reduceSub, Nat.reduceLeDiff, Nat.reduceLT, reduceCtorEq, Tryd.f28]
theorem cloneR_fn (l : List Seg) (ad : Addr) (n c : Nat) (hn : l.length = n) (F : Fact) (hF : F.to (rowF (some ad) (segsC l))) (hl : l.length < 1000000) : FnR Tryd.prog 28 [.slice (some ad) n c] F 40 20 n (segsC l) := by
  refine FnR.of_body Tryd.func28 rfl (Nat.le_of_ble_eq_true rfl) (Nat.le_of_ble_eq_true rfl) (by kernel_rfl) ?_
  refine SC.seqN [0] [.l 5, .l 7] fun K1 hK1 => SC.region ?_
  simp -implicitDefEqProofs only [push_cast, ↓reduceIte, Nat.reduceEqDiff, Nat.reduceAdd, Nat.reduceMul, Nat.reduceSub, Nat.reduceLeDiff, Nat.reduceLT, reduceCtorEq]
  refine hK1 _ ?_
  refine SC.seqN [0] [.l 5, .l 7] fun K2 hK2 => ?_
  refine SC.seqN [0, 4] [.l 5, .l 7] fun K3 hK3 => SC.region ?_
  simp -implicitDefEqProofs only [push_cast, ↓reduceIte, Nat.reduceEqDiff, Nat.reduceAdd, Nat.reduceMul, Nat.reduceSub, Nat.reduceLeDiff, Nat.reduceLT, reduceCtorEq, Option.isNone_some]
  refine hK3 _ ?_
  refine SC.cond ?_
  simp -implicitDefEqProofs only [push_cast, ↓reduceIte, Nat.reduceEqDiff, Nat.reduceAdd, Nat.reduceMul, Nat.reduceSub, Nat.reduceLeDiff, Nat.reduceLT, reduceCtorEq]
  refine SC.skip ?_
  simp -implicitDefEqProofs only [push_cast, ↓reduceIte, Nat.reduceEqDiff, Nat.reduceAdd, Nat.reduceMul, Nat.reduceSub, Nat.reduceLeDiff, Nat.reduceLT, reduceCtorEq]
  refine hK2 _ ?_
  refine SC.seqN [2] [.l 5, .l 7] fun K5 hK5 => SC.region ?_
  simp -implicitDefEqProofs only [push_cast, ↓reduceIte, Nat.reduceEqDiff, Nat.reduceAdd, Nat.reduceMul, Nat.reduceSub, Nat.reduceLeDiff, Nat.reduceLT, reduceCtorEq]
  refine apF_segs l hF hn.symm rfl ⟨by rw [mxl]; omega, by simp only [Nat.zero_add]; omega⟩ ?_
  simp -implicitDefEqProofs only [push_cast, ↓reduceIte, Nat.reduceEqDiff, Nat.reduceAdd, Nat.reduceMul, Nat.reduceSub, Nat.reduceLeDiff, Nat.reduceLT, reduceCtorEq]
  refine hK5 _ ?_
  refine SC.ret ?_
  exact ⟨2, .l 7, rfl, rfl, rfl⟩
end Go.Proofs.YtmamodnpghlgcaaDoor
/- playlist.Merge. -/

set_option linter.unusedSimpArgs false
set_option linter.unusedVariables false
set_option maxRecDepth 100000
set_option maxHeartbeats 4000000
namespace Go.Proofs.YtmamodnpghlgcaaDoor
open Go.RowKit
def pl0 : Pl := ⟨0, [], false⟩
theorem isPl0 (F : Fact) : isPl pl0 F (.agg #[.int .i64 0, .slice none 0 0, .bool false]) := ⟨none, 0, rfl, Nat.le_refl _, rowF_nil _ _⟩
def mE (A B : Pl) : Pl := if A.next < B.next then A else B
def mL (A B : Pl) : Pl := if A.next < B.next then B else A
def mBefore (e p : Pl) : Int := max 0 (p.first - e.first)
def mJoin (e p : Pl) : Bool := decide (0 < e.l.length) && (decide (0 < p.l.length) && decide (p.first ≤ e.next))
def mOut (e p : Pl) (d : Bool) : Pl := if mJoin e p then ⟨p.first - mBefore e p, e.l.take (mBefore e p).toNat ++ p.l, d⟩ else ⟨p.first, p.l, d⟩
def mergeP (A B : Pl) (w : Int) : Pl × Int := if w < 1 ∨ 100 < w then (pl0, 1) else if forkB (mE A B) (mL A B) then (pl0, 430) else ((mOut (mE A B) (mL A B) (A.done || B.done)).cut w, 0)
theorem oneV_ex (o : Option Seg) : ∃ x r, oneV o = .tuple #[segV x, .int .i64 r] ∧ (match o with | some y => y = x ∧ r = 0 | none => r = 5) := by
  cases o with
  | none => exact ⟨seg0, 5, rfl, rfl⟩
  | some y => exact ⟨y, 0, rfl, rfl, rfl⟩
theorem slA_some {F : Fact} {a : Option Addr} {l : List Seg} (hF : F.to (rowF a (segsC l))) (h : ∃ s, F.p s) (h0 : 0 < l.length) (c : Nat) : ∃ ad, slA a 0 c 20 = some ad ∧ F.to (rowF (some ad) (segsC l)) := by
  have hr := rowF_drop (c := l.length + c) (z := 20) hF 0 (by rw [segsC_length]; omega)
  obtain ⟨ad, rfl⟩ : ∃ ad, a = some ad := by
    cases a with
    | some ad => exact ⟨ad, rfl⟩
    | none => have := row_nil hF h rfl; rw [this] at h0; cases h0
  have h1 : ∀ c, slA (some ad) 0 c 20 = some ad := by
    intro c
    unfold slA
    split
    · rfl
    · simp [Addr.add]
  exact ⟨ad, h1 c, hF⟩
theorem merge_fn (A B : Pl) (va vb : Value) (w : Int) (F : Fact) (ha : isPl A F va) (hb : isPl B F vb) (hkA : A.Ok) (hkB : B.Ok) (hlA : A.l.length ≤ 1000) (hlB : B.l.length ≤ 1000) (hsA : ∀ s ∈ A.l, s.Ok) (hsB : ∀ s ∈ B.l, s.Ok) :
    Fn Tryd.prog 10 [va, vb, .int .i64 w] F fun v G => ∃ pv, v = .tuple #[pv, .int .i64 (mergeP A B w).2] ∧ isPl (mergeP A B w).1 G pv := by
  obtain ⟨aA, cA, rfl, hcA, hFA⟩ := ha
  obtain ⟨aB, cB, rfl, hcB, hFB⟩ := hb
  refine Fn.ex fun hex => ?_
  refine Fn.of_body Tryd.func10 rfl (Nat.le_of_ble_eq_true rfl) (Nat.le_of_ble_eq_true rfl) (by kernel_rfl) ?_
  refine SC.seqN [2, 3, 4, 6] [.l 3, .l 4, .l 6, .l 127] fun K1 hK1 => SC.region ?_
  simp -implicitDefEqProofs only [push_cast, ↓reduceIte, Nat.reduceEqDiff, Nat.reduceAdd, Nat.reduceMul, Nat.reduceSub, Nat.reduceLeDiff, Nat.reduceLT, reduceCtorEq, plV]
  refine hK1 _ ?_
  clear hK1
  refine SC.seqN [2, 3, 4, 6] [.l 3, .l 4, .l 6, .l 127] fun K2 hK2 => ?_
  refine SC.seqN [2, 3, 4, 6, 21] [.l 3, .l 4, .l 6, .l 127] fun K3 hK3 => SC.region ?_
  simp -implicitDefEqProofs only [push_cast, ↓reduceIte, Nat.reduceEqDiff, Nat.reduceAdd, Nat.reduceMul, Nat.reduceSub, Nat.reduceLeDiff, Nat.reduceLT, reduceCtorEq]
  have key3 : ∀ b, b = (decide (w < 1) || decide (100 < w)) → K3 ⟨[(2, .v (.int .i64 w)), (3, .own (.l 3) 0), (4, .own (.l 4) 0), (6, .own (.l 6) 0), (21, .v (.bool b))], [(.l 3, .box [.v (.int .i64 A.first), .v (.slice aA A.l.length cA), .v (.bool A.done)] 27), (.l 4, .box [.v (.int .i64 B.first), .v (.slice aB B.l.length cB), .v (.bool B.done)] 27), (.l 6, .box [.v (.int .i64 0), .v (.slice none 0 0), .v (.bool false)] 27)], F⟩ := by
    intro b hb
    subst hb
    refine hK3 _ ?_
    clear hK3
    refine SC.cond ?_
    simp -implicitDefEqProofs only [push_cast, ↓reduceIte, Nat.reduceEqDiff, Nat.reduceAdd, Nat.reduceMul, Nat.reduceSub, Nat.reduceLeDiff, Nat.reduceLT, reduceCtorEq]
    refine ⟨fun h1 => ?_, fun h1 => ?_⟩
    · skip
      refine SC.seqN [6, 7] [.l 6, .l 127] fun K4 hK4 => SC.region ?_
      simp -implicitDefEqProofs only [push_cast, ↓reduceIte, Nat.reduceEqDiff, Nat.reduceAdd, Nat.reduceMul, Nat.reduceSub, Nat.reduceLeDiff, Nat.reduceLT, reduceCtorEq]
      refine hK4 _ ?_
      clear hK4
      refine SC.ret ?_
      simp -implicitDefEqProofs only [push_cast, ↓reduceIte, Nat.reduceEqDiff, Nat.reduceAdd, Nat.reduceMul, Nat.reduceSub, Nat.reduceLeDiff, Nat.reduceLT, reduceCtorEq, Tryd.f10]
      have hm : mergeP A B w = (pl0, 1) := if_pos (by simpa using h1)
      rw [hm]
      exact ⟨_, rfl, isPl0 _⟩
    · skip
      have hw : ¬ (w < 1 ∨ 100 < w) := by simpa using h1
      refine SC.skip ?_
      simp -implicitDefEqProofs only [push_cast, ↓reduceIte, Nat.reduceEqDiff, Nat.reduceAdd, Nat.reduceMul, Nat.reduceSub, Nat.reduceLeDiff, Nat.reduceLT, reduceCtorEq]
      refine hK2 _ ?_
      clear hK2
      refine SC.seqN [2, 3, 4, 6, 8, 9] [.l 3, .l 4, .l 6, .l 8, .l 9, .l 127] fun K5 hK5 => SC.drawnP (.load 0 (.load 1 (.forkE 2 [3, 4] (.forkE 3 [3, 4] (.forkE 4 [3] (.fork 5 (.done) (.stop)) (.stop)) (.stop)) (.forkE 3 [3, 4] (.forkE 2 [3, 4] (.forkE 4 [3] (.fork 5 (.done) (.stop)) (.stop)) (.stop)) (.stop))))) (by kernel_rfl) (by kernel_rfl) (fun _ _ h => h) ?_
      simp -implicitDefEqProofs only [push_cast, ↓reduceIte, Nat.reduceEqDiff, Nat.reduceAdd, Nat.reduceMul, Nat.reduceSub, Nat.reduceLeDiff, Nat.reduceLT, reduceCtorEq]
      have key5 : K5 ⟨[(2, .v (.int .i64 w)), (3, .own (.l 3) 0), (4, .own (.l 4) 0), (6, .own (.l 6) 0), (8, .own (.l 8) 0), (9, .own (.l 9) 0)], [(.l 3, .box [.v (.int .i64 A.first), .v (.slice aA A.l.length cA), .v (.bool A.done)] 27), (.l 4, .box [.v (.int .i64 B.first), .v (.slice aB B.l.length cB), .v (.bool B.done)] 27), (.l 6, .box [.v (.int .i64 0), .v (.slice none 0 0), .v (.bool false)] 27), (.l 8, .box [.v (.int .i64 B.first), .v (.slice aB B.l.length cB), .v (.bool B.done)] 27), (.l 9, .box [.v (.int .i64 A.first), .v (.slice aA A.l.length cA), .v (.bool A.done)] 27)], F⟩ := by
        refine hK5 _ ?_
        clear hK5
        refine SC.seqM [2, 3, 4, 6, 8, 9] [.l 3, .l 4, .l 6, .l 8, .l 9, .l 127] fun K6 hK6 hJ6 => ?_
        have key6 : ∀ (e p : Pl) (ae ap : Option Addr) (ce cp : Nat), e = mE A B → p = mL A B → e.l.length ≤ ce → p.l.length ≤ cp → F.to (rowF ae (segsC e.l)) → F.to (rowF ap (segsC p.l)) → K6 ⟨[(2, .v (.int .i64 w)), (3, .own (.l 3) 0), (4, .own (.l 4) 0), (6, .own (.l 6) 0), (8, .own (.l 8) 0), (9, .own (.l 9) 0)], [(.l 3, .box [.v (.int .i64 A.first), .v (.slice aA A.l.length cA), .v (.bool A.done)] 27), (.l 4, .box [.v (.int .i64 B.first), .v (.slice aB B.l.length cB), .v (.bool B.done)] 27), (.l 6, .box [.v (.int .i64 0), .v (.slice none 0 0), .v (.bool false)] 27), (.l 8, .box [.v (.int .i64 e.first), .v (.slice ae e.l.length ce), .v (.bool e.done)] 27), (.l 9, .box [.v (.int .i64 p.first), .v (.slice ap p.l.length cp), .v (.bool p.done)] 27)], F⟩ := by
          intro e p ae ap ce cp he hp hce hcp hFe hFp
          have hPe : isPl e F (plV e.first ae e.l.length ce e.done) := ⟨ae, ce, rfl, hce, hFe⟩
          have hPp : isPl p F (plV p.first ap p.l.length cp p.done) := ⟨ap, cp, rfl, hcp, hFp⟩
          have hke : e.Ok := by rw [he]; unfold mE; split <;> assumption
          have hkp : p.Ok := by rw [hp]; unfold mL; split <;> assumption
          have hle : e.l.length ≤ 1000 := by rw [he]; unfold mE; split <;> assumption
          have hlp : p.l.length ≤ 1000 := by rw [hp]; unfold mL; split <;> assumption
          have hse : ∀ s ∈ e.l, s.Ok := by rw [he]; unfold mE; split <;> assumption
          have hF4 : forkB e p = true → mergeP A B w = (pl0, 430) := by intro h; unfold mergeP; rw [if_neg hw, ← he, ← hp, if_pos h]
          have hF5 : forkB e p = false → mergeP A B w = ((mOut e p (A.done || B.done)).cut w, 0) := by intro h; unfold mergeP; rw [if_neg hw, ← he, ← hp, if_neg (by rw [h]; simp)]
          have e0 := hke.f0
          have e1 := hke.f1
          have p0 := hkp.f0
          have p1 := hkp.f1
          refine hK6 _ ?_
          refine SC.seqN [2, 3, 4, 6, 8, 9] [.l 3, .l 4, .l 6, .l 8, .l 9, .l 127] fun K7 hK7 => ?_
          refine SC.seqN [2, 3, 4, 6, 8, 9, 40] [.l 3, .l 4, .l 6, .l 8, .l 9, .l 127] fun K8 hK8 => SC.drawnP (.take 0 (.load 1 (.take 2 (.load 3 (.load 5 (.forkE 4 [9, 32] (.forkE 6 [32] (.take 7 (.take 8 (.done))) (.stop)) (.stop))))))) (by kernel_rfl) (by kernel_rfl) (fun _ _ h => h) ?_
          simp -implicitDefEqProofs only [push_cast, ↓reduceIte, Nat.reduceEqDiff, Nat.reduceAdd, Nat.reduceMul, Nat.reduceSub, Nat.reduceLeDiff, Nat.reduceLT, reduceCtorEq]
          have key8 : ∀ b, b = (e.done && decide (e.next < p.next)) → K8 ⟨[(2, .v (.int .i64 w)), (3, .own (.l 3) 0), (4, .own (.l 4) 0), (6, .own (.l 6) 0), (8, .own (.l 8) 0), (9, .own (.l 9) 0), (40, .v (.bool b))], [(.l 3, .box [.v (.int .i64 A.first), .v (.slice aA A.l.length cA), .v (.bool A.done)] 27), (.l 4, .box [.v (.int .i64 B.first), .v (.slice aB B.l.length cB), .v (.bool B.done)] 27), (.l 6, .box [.v (.int .i64 0), .v (.slice none 0 0), .v (.bool false)] 27), (.l 8, .box [.v (.int .i64 e.first), .v (.slice ae e.l.length ce), .v (.bool e.done)] 27), (.l 9, .box [.v (.int .i64 p.first), .v (.slice ap p.l.length cp), .v (.bool p.done)] 27)], F⟩ := by
            intro b hb
            subst hb
            refine hK8 _ ?_
            clear hK8
            refine SC.cond ?_
            simp -implicitDefEqProofs only [push_cast, ↓reduceIte, Nat.reduceEqDiff, Nat.reduceAdd, Nat.reduceMul, Nat.reduceSub, Nat.reduceLeDiff, Nat.reduceLT, reduceCtorEq]
            refine ⟨fun h2 => ?_, fun h2 => ?_⟩
            · skip
              refine SC.seqN [6, 7] [.l 6, .l 127] fun K9 hK9 => SC.region ?_
              simp -implicitDefEqProofs only [push_cast, ↓reduceIte, Nat.reduceEqDiff, Nat.reduceAdd, Nat.reduceMul, Nat.reduceSub, Nat.reduceLeDiff, Nat.reduceLT, reduceCtorEq]
              refine hK9 _ ?_
              clear hK9
              refine SC.ret ?_
              simp -implicitDefEqProofs only [push_cast, ↓reduceIte, Nat.reduceEqDiff, Nat.reduceAdd, Nat.reduceMul, Nat.reduceSub, Nat.reduceLeDiff, Nat.reduceLT, reduceCtorEq, Tryd.f10]
              rw [hF4 (by simp [forkB, h2])]
              exact ⟨_, rfl, isPl0 _⟩
            · skip
              refine SC.skip ?_
              simp -implicitDefEqProofs only [push_cast, ↓reduceIte, Nat.reduceEqDiff, Nat.reduceAdd, Nat.reduceMul, Nat.reduceSub, Nat.reduceLeDiff, Nat.reduceLT, reduceCtorEq]
              refine hK7 _ ?_
              clear hK7
              refine SC.seqN [2, 3, 4, 6, 8, 9] [.l 3, .l 4, .l 6, .l 8, .l 9, .l 127] fun K10 hK10 => ?_
              refine SC.seqN [2, 3, 4, 6, 8, 9, 43, 44, 45] [.l 3, .l 4, .l 6, .l 8, .l 9, .l 127] fun K11 hK11 => SC.region ?_
              simp -implicitDefEqProofs only [push_cast, ↓reduceIte, Nat.reduceEqDiff, Nat.reduceAdd, Nat.reduceMul, Nat.reduceSub, Nat.reduceLeDiff, Nat.reduceLT, reduceCtorEq]
              refine hK11 _ ?_
              clear hK11
              refine SC.block ?_
              refine SC.loop (fun i : Nat => ⟨[(2, .v (.int .i64 w)), (3, .own (.l 3) 0), (4, .own (.l 4) 0), (6, .own (.l 6) 0), (8, .own (.l 8) 0), (9, .own (.l 9) 0), (43, .v (.slice ae e.l.length ce)), (44, .v (.int .i64 e.l.length)), (45, .v (.int .i64 i))], [(.l 3, .box [.v (.int .i64 A.first), .v (.slice aA A.l.length cA), .v (.bool A.done)] 27), (.l 4, .box [.v (.int .i64 B.first), .v (.slice aB B.l.length cB), .v (.bool B.done)] 27), (.l 6, .box [.v (.int .i64 0), .v (.slice none 0 0), .v (.bool false)] 27), (.l 8, .box [.v (.int .i64 e.first), .v (.slice ae e.l.length ce), .v (.bool e.done)] 27), (.l 9, .box [.v (.int .i64 p.first), .v (.slice ap p.l.length cp), .v (.bool p.done)] 27)], F⟩) (fun i => i ≤ e.l.length ∧ ∀ j s, j < i → e.l[j]? = some s → clash p.l s = false) (fun i => e.l.length - i) 0 (Le.refl _) ⟨Nat.zero_le _, fun j s hj => absurd hj (Nat.not_lt_zero j)⟩ fun i hx => ?_
              refine SC.seqN [2, 3, 4, 6, 8, 9, 43, 44, 45, 46] [.l 3, .l 4, .l 6, .l 8, .l 9, .l 127] fun K12 hK12 => SC.region ?_
              simp -implicitDefEqProofs only [push_cast, ↓reduceIte, Nat.reduceEqDiff, Nat.reduceAdd, Nat.reduceMul, Nat.reduceSub, Nat.reduceLeDiff, Nat.reduceLT, reduceCtorEq]
              refine hK12 _ ?_
              clear hK12
              refine SC.seqN [2, 3, 4, 6, 8, 9, 43, 44, 45] [.l 3, .l 4, .l 6, .l 8, .l 9, .l 127] fun K13 hK13 => ?_
              refine SC.cond ?_
              simp -implicitDefEqProofs only [push_cast, ↓reduceIte, Nat.reduceEqDiff, Nat.reduceAdd, Nat.reduceMul, Nat.reduceSub, Nat.reduceLeDiff, Nat.reduceLT, reduceCtorEq]
              refine ⟨fun h3 => ?_, fun h3 => ?_⟩
              · skip
                have hil : i < e.l.length := by omega
                have hs : e.l[i]? = some e.l[i] := List.getElem?_eq_getElem hil
                refine SC.skip ?_
                simp -implicitDefEqProofs only [push_cast, ↓reduceIte, Nat.reduceEqDiff, Nat.reduceAdd, Nat.reduceMul, Nat.reduceSub, Nat.reduceLeDiff, Nat.reduceLT, reduceCtorEq]
                refine hK13 _ ?_
                clear hK13
                refine SC.seqN [2, 3, 4, 6, 8, 9, 43, 44, 45] [.l 3, .l 4, .l 6, .l 8, .l 9, .l 127] fun K14 hK14 => ?_
                refine SC.block ?_
                refine SC.seqN [2, 3, 4, 6, 8, 9, 11, 43, 44, 45] [.l 3, .l 4, .l 6, .l 8, .l 9, .l 11, .l 127] fun K15 hK15 => SC.region ?_
                simp -implicitDefEqProofs only [push_cast, ↓reduceIte, Nat.reduceEqDiff, Nat.reduceAdd, Nat.reduceMul, Nat.reduceSub, Nat.reduceLeDiff, Nat.reduceLT, reduceCtorEq]
                refine ⟨by omega, rowF_some hFe (segsC_ne (by omega)), loadSeg i hFe hs rfl rfl ?_⟩
                simp -implicitDefEqProofs only [push_cast, ↓reduceIte, Nat.reduceEqDiff, Nat.reduceAdd, Nat.reduceMul, Nat.reduceSub, Nat.reduceLeDiff, Nat.reduceLT, reduceCtorEq, segV, segC]
                refine hK15 _ ?_
                clear hK15
                refine SC.seqN [2, 3, 4, 6, 8, 9, 11, 12, 13, 43, 44, 45] [.l 3, .l 4, .l 6, .l 8, .l 9, .l 11, .l 12, .l 127] fun K16 hK16 => SC.region ?_
                simp -implicitDefEqProofs only [push_cast, ↓reduceIte, Nat.reduceEqDiff, Nat.reduceAdd, Nat.reduceMul, Nat.reduceSub, Nat.reduceLeDiff, Nat.reduceLT, reduceCtorEq]
                have key16 : ∀ x r, oneV (findM p.l e.l[i].num) = .tuple #[segV x, .int .i64 r] → (match findM p.l e.l[i].num with | some y => y = x ∧ r = 0 | none => r = 5) → K16 ⟨[(2, .v (.int .i64 w)), (3, .own (.l 3) 0), (4, .own (.l 4) 0), (6, .own (.l 6) 0), (8, .own (.l 8) 0), (9, .own (.l 9) 0), (11, .own (.l 11) 0), (12, .own (.l 12) 0), (13, .v (.int .i64 r)), (43, .v (.slice ae e.l.length ce)), (44, .v (.int .i64 e.l.length)), (45, .v (.int .i64 i))], [(.l 3, .box [.v (.int .i64 A.first), .v (.slice aA A.l.length cA), .v (.bool A.done)] 27), (.l 4, .box [.v (.int .i64 B.first), .v (.slice aB B.l.length cB), .v (.bool B.done)] 27), (.l 6, .box [.v (.int .i64 0), .v (.slice none 0 0), .v (.bool false)] 27), (.l 8, .box [.v (.int .i64 e.first), .v (.slice ae e.l.length ce), .v (.bool e.done)] 27), (.l 9, .box [.v (.int .i64 p.first), .v (.slice ap p.l.length cp), .v (.bool p.done)] 27), (.l 11, .box [.v (.int .i64 e.l[i].num), .v (.int .i64 e.l[i].beg), .v (.int .i64 e.l[i].len), .v (.int .u8 (e.l[i].body 0)), .v (.int .u8 (e.l[i].body 1)), .v (.int .u8 (e.l[i].body 2)), .v (.int .u8 (e.l[i].body 3)), .v (.int .u8 (e.l[i].body 4)), .v (.int .u8 (e.l[i].body 5)), .v (.int .u8 (e.l[i].body 6)), .v (.int .u8 (e.l[i].body 7)), .v (.int .u8 (e.l[i].body 8)), .v (.int .u8 (e.l[i].body 9)), .v (.int .u8 (e.l[i].body 10)), .v (.int .u8 (e.l[i].body 11)), .v (.int .u8 (e.l[i].body 12)), .v (.int .u8 (e.l[i].body 13)), .v (.int .u8 (e.l[i].body 14)), .v (.int .u8 (e.l[i].body 15)), .v (.int .i64 e.l[i].size)] 40), (.l 12, .box [.v (.int .i64 x.num), .v (.int .i64 x.beg), .v (.int .i64 x.len), .v (.int .u8 (x.body 0)), .v (.int .u8 (x.body 1)), .v (.int .u8 (x.body 2)), .v (.int .u8 (x.body 3)), .v (.int .u8 (x.body 4)), .v (.int .u8 (x.body 5)), .v (.int .u8 (x.body 6)), .v (.int .u8 (x.body 7)), .v (.int .u8 (x.body 8)), .v (.int .u8 (x.body 9)), .v (.int .u8 (x.body 10)), .v (.int .u8 (x.body 11)), .v (.int .u8 (x.body 12)), .v (.int .u8 (x.body 13)), .v (.int .u8 (x.body 14)), .v (.int .u8 (x.body 15)), .v (.int .i64 x.size)] 40)], F⟩ := by
                  intro x r hg hm
                  refine hK16 _ ?_
                  clear hK16
                  refine SC.seqN [2, 3, 4, 6, 8, 9, 43, 44, 45, 62] [.l 3, .l 4, .l 6, .l 8, .l 9, .l 127] fun K17 hK17 => SC.region ?_
                  simp -implicitDefEqProofs only [push_cast, ↓reduceIte, Nat.reduceEqDiff, Nat.reduceAdd, Nat.reduceMul, Nat.reduceSub, Nat.reduceLeDiff, Nat.reduceLT, reduceCtorEq]
                  have key17 : ∀ b, b = clash p.l e.l[i] → K17 ⟨[(2, .v (.int .i64 w)), (3, .own (.l 3) 0), (4, .own (.l 4) 0), (6, .own (.l 6) 0), (8, .own (.l 8) 0), (9, .own (.l 9) 0), (43, .v (.slice ae e.l.length ce)), (44, .v (.int .i64 e.l.length)), (45, .v (.int .i64 i)), (62, .v (.bool b))], [(.l 3, .box [.v (.int .i64 A.first), .v (.slice aA A.l.length cA), .v (.bool A.done)] 27), (.l 4, .box [.v (.int .i64 B.first), .v (.slice aB B.l.length cB), .v (.bool B.done)] 27), (.l 6, .box [.v (.int .i64 0), .v (.slice none 0 0), .v (.bool false)] 27), (.l 8, .box [.v (.int .i64 e.first), .v (.slice ae e.l.length ce), .v (.bool e.done)] 27), (.l 9, .box [.v (.int .i64 p.first), .v (.slice ap p.l.length cp), .v (.bool p.done)] 27)], F⟩ := by
                    intro b hb
                    subst hb
                    refine hK17 _ ?_
                    clear hK17
                    refine SC.cond ?_
                    simp -implicitDefEqProofs only [push_cast, ↓reduceIte, Nat.reduceEqDiff, Nat.reduceAdd, Nat.reduceMul, Nat.reduceSub, Nat.reduceLeDiff, Nat.reduceLT, reduceCtorEq]
                    refine ⟨fun h4 => ?_, fun h4 => ?_⟩
                    · skip
                      refine SC.seqN [6, 7] [.l 6, .l 127] fun K18 hK18 => SC.region ?_
                      simp -implicitDefEqProofs only [push_cast, ↓reduceIte, Nat.reduceEqDiff, Nat.reduceAdd, Nat.reduceMul, Nat.reduceSub, Nat.reduceLeDiff, Nat.reduceLT, reduceCtorEq]
                      refine hK18 _ ?_
                      clear hK18
                      refine SC.ret ?_
                      simp -implicitDefEqProofs only [push_cast, ↓reduceIte, Nat.reduceEqDiff, Nat.reduceAdd, Nat.reduceMul, Nat.reduceSub, Nat.reduceLeDiff, Nat.reduceLT, reduceCtorEq, Tryd.f10]
                      have : e.l.any (clash p.l) = true := List.any_eq_true.2 ⟨e.l[i], List.getElem_mem hil, h4⟩
                      rw [hF4 (by simp [forkB, this])]
                      exact ⟨_, rfl, isPl0 _⟩
                    · skip
                      refine SC.skip ?_
                      simp -implicitDefEqProofs only [push_cast, ↓reduceIte, Nat.reduceEqDiff, Nat.reduceAdd, Nat.reduceMul, Nat.reduceSub, Nat.reduceLeDiff, Nat.reduceLT, reduceCtorEq]
                      refine hK14 _ ?_
                      clear hK14
                      refine SC.region ?_
                      simp -implicitDefEqProofs only [push_cast, ↓reduceIte, Nat.reduceEqDiff, Nat.reduceAdd, Nat.reduceMul, Nat.reduceSub, Nat.reduceLeDiff, Nat.reduceLT, reduceCtorEq]
                      refine ⟨by omega, i + 1, ⟨by omega, fun j s hj hs' => ?_⟩, by omega, Le.trans (Le.norm _ [2, 3, 4, 6, 8, 9, 43, 44, 45] [.l 3, .l 4, .l 6, .l 8, .l 9]) ?_⟩
                      · rcases Nat.lt_succ_iff_lt_or_eq.1 hj with hj | rfl
                        · exact hx.2 j s hj hs'
                        · rw [hs] at hs'
                          obtain rfl := Option.some.inj hs'
                          simpa using h4
                      · simp -implicitDefEqProofs only [push_cast, ↓reduceIte, Nat.reduceEqDiff, Nat.reduceAdd, Nat.reduceMul, Nat.reduceSub, Nat.reduceLeDiff, Nat.reduceLT, reduceCtorEq]
                        exact Le.refl _
                  clear hK10 hK14 hK17
                  repeat' (first
                    | (refine neSeg x e.l[i] ?_
                       simp -implicitDefEqProofs only [push_cast, ↓reduceIte, Nat.reduceEqDiff, Nat.reduceAdd, Nat.reduceMul, Nat.reduceSub, Nat.reduceLeDiff, Nat.reduceLT, reduceCtorEq])
                    | (with_reducible refine And.intro (by omega) ?_)
                    | (with_reducible refine And.intro ?_ ?_)
                    | intro h)
                  all_goals (refine key17 _ ?_; clear key17; unfold clash; cases hq : findM p.l e.l[i].num)
                  all_goals simp_all
                clear hK10 hK14 hK16
                obtain ⟨x, r, hg, hm⟩ := oneV_ex (findM p.l e.l[i].num)
                refine callL_fn0 (find_fn p _ e.l[i].num F hPp (by omega)) rfl (fun _ h => h) fun v G hv => ?_
                rw [hg] at hv
                subst hv
                simp -implicitDefEqProofs only [push_cast, ↓reduceIte, Nat.reduceEqDiff, Nat.reduceAdd, Nat.reduceMul, Nat.reduceSub, Nat.reduceLeDiff, Nat.reduceLT, reduceCtorEq, segV, segC]
                exact key16 x r hg hm
              · skip
                have hall : e.l.any (clash p.l) = false := any_clash fun j s hs => hx.2 j s (by have := (List.getElem?_eq_some_iff.1 hs).1; omega) hs
                refine SC.exit ?_
                simp -implicitDefEqProofs only [push_cast, ↓reduceIte, Nat.reduceEqDiff, Nat.reduceAdd, Nat.reduceMul, Nat.reduceSub, Nat.reduceLeDiff, Nat.reduceLT, reduceCtorEq]
                refine hK10 _ ?_
                clear hK10
                refine SC.seqN [2, 6, 8, 9, 14] [.l 6, .l 8, .l 9, .l 14, .l 127] fun K19 hK19 => SC.drawnP (.take 0 (.take 2 (.take 5 (.load 1 (.load 3 (.load 6 (.forkE 4 [65, 70] (.take 7 (.take 8 (.load 9 (.take 10 (.take 11 (.forkE 12 [65, 70, 73] (.fork 13 (.done) (.stop)) (.stop))))))) (.forkE 12 [65, 67, 70] (.forkE 4 [65, 70] (.take 7 (.take 8 (.load 9 (.take 10 (.take 11 (.fork 13 (.done) (.stop))))))) (.stop)) (.stop))))))))) (by kernel_rfl) (by kernel_rfl) (fun _ _ h => h) ?_
                simp -implicitDefEqProofs only [push_cast, ↓reduceIte, Nat.reduceEqDiff, Nat.reduceAdd, Nat.reduceMul, Nat.reduceSub, Nat.reduceLeDiff, Nat.reduceLT, reduceCtorEq]
                have key19 : ∀ (ao : Option Addr) (co : Nat) (d : Bool) (F' : Fact), d = (A.done || B.done) → F'.to F → p.l.length ≤ co → F'.to (rowF ao (segsC p.l)) → K19 ⟨[(2, .v (.int .i64 w)), (6, .own (.l 6) 0), (8, .own (.l 8) 0), (9, .own (.l 9) 0), (14, .own (.l 14) 0)], [(.l 6, .box [.v (.int .i64 0), .v (.slice none 0 0), .v (.bool false)] 27), (.l 8, .box [.v (.int .i64 e.first), .v (.slice ae e.l.length ce), .v (.bool e.done)] 27), (.l 9, .box [.v (.int .i64 p.first), .v (.slice ap p.l.length cp), .v (.bool p.done)] 27), (.l 14, .box [.v (.int .i64 p.first), .v (.slice ao p.l.length co), .v (.bool d)] 27)], F'⟩ := by
                  intro ao co d F' hd hto hco hrow
                  subst hd
                  have hPe' : isPl e F' (plV e.first ae e.l.length ce e.done) := ⟨ae, ce, rfl, hce, Fact.to_trans hto hFe⟩
                  have hFp' : F'.to (rowF ap (segsC p.l)) := Fact.to_trans hto hFp
                  have hFe' : F'.to (rowF ae (segsC e.l)) := Fact.to_trans hto hFe
                  refine hK19 _ ?_
                  clear hK19
                  refine SC.seqM [2, 6, 14] [.l 6, .l 14, .l 127] fun K20 hK20 hJ20 => ?_
                  have key20 : ∀ (o : Pl) (ao : Option Addr) (co : Nat) (F' : Fact), forkE e p = false → o = mOut e p (A.done || B.done) → o.l.length ≤ co → F'.to (rowF ao (segsC o.l)) → K20 ⟨[(2, .v (.int .i64 w)), (6, .own (.l 6) 0), (14, .own (.l 14) 0)], [(.l 6, .box [.v (.int .i64 0), .v (.slice none 0 0), .v (.bool false)] 27), (.l 14, .box [.v (.int .i64 o.first), .v (.slice ao o.l.length co), .v (.bool o.done)] 27)], F'⟩ := by
                    intro o ao co F' hf ho hco hrow
                    refine hK20 _ ?_
                    refine SC.seqN [6, 7] [.l 6, .l 127] fun K21 hK21 => SC.region ?_
                    simp -implicitDefEqProofs only [push_cast, ↓reduceIte, Nat.reduceEqDiff, Nat.reduceAdd, Nat.reduceMul, Nat.reduceSub, Nat.reduceLeDiff, Nat.reduceLT, reduceCtorEq]
                    have hkO : o.Ok := by
                      have hlo : o.l.length ≤ e.l.length + p.l.length := by
                        rw [ho]; unfold mOut; split
                        · simp only [List.length_append, List.length_take]; omega
                        · simp only []; omega
                      have hfo : -1152921504606846976 ≤ o.first ∧ o.first ≤ 1152921504606846976 := by
                        rw [ho]; unfold mOut mBefore; split
                        · simp only []; omega
                        · simp only []; omega
                      exact ⟨by omega, hfo.1, hfo.2⟩
                    refine callL_fn (cut_fn o _ w F' ⟨ao, co, rfl, hco, hrow⟩ hkO ⟨by omega, by omega⟩) rfl (fun _ h => h) fun v G hv => ?_
                    obtain ⟨a2, c2, rfl, hc2, hG⟩ := hv
                    simp -implicitDefEqProofs only [push_cast, ↓reduceIte, Nat.reduceEqDiff, Nat.reduceAdd, Nat.reduceMul, Nat.reduceSub, Nat.reduceLeDiff, Nat.reduceLT, reduceCtorEq, plV]
                    refine hK21 _ ?_
                    clear hK21
                    refine SC.ret ?_
                    simp -implicitDefEqProofs only [push_cast, ↓reduceIte, Nat.reduceEqDiff, Nat.reduceAdd, Nat.reduceMul, Nat.reduceSub, Nat.reduceLeDiff, Nat.reduceLT, reduceCtorEq, Tryd.f10]
                    have h2' : (e.done && decide (e.next < p.next)) = false := by simpa using h2
                    rw [hF5 (by simp only [forkB, hall, h2', hf, Bool.or_self]), ← ho]
                    exact ⟨_, rfl, a2, c2, rfl, hc2, Fact.to_right hG⟩
                  refine SC.seqN [2, 6, 8, 9, 14, 93] [.l 6, .l 8, .l 9, .l 14, .l 127] fun K22 hK22 => SC.drawnP (.take 0 (.load 1 (.take 2 (.take 3 (.take 4 (.take 5 (.load 6 (.take 7 (.take 8 (.take 9 (.take 10 (.take 13 (.load 11 (.load 14 (.forkE 12 [77, 82, 90] (.take 15 (.take 16 (.done))) (.stop)))))))))))))))) (by kernel_rfl) (by kernel_rfl) (fun _ _ h => h) ?_
                  simp -implicitDefEqProofs only [push_cast, ↓reduceIte, Nat.reduceEqDiff, Nat.reduceAdd, Nat.reduceMul, Nat.reduceSub, Nat.reduceLeDiff, Nat.reduceLT, reduceCtorEq]
                  have key22 : ∀ b, b = mJoin e p → K22 ⟨[(2, .v (.int .i64 w)), (6, .own (.l 6) 0), (8, .own (.l 8) 0), (9, .own (.l 9) 0), (14, .own (.l 14) 0), (93, .v (.bool b))], [(.l 6, .box [.v (.int .i64 0), .v (.slice none 0 0), .v (.bool false)] 27), (.l 8, .box [.v (.int .i64 e.first), .v (.slice ae e.l.length ce), .v (.bool e.done)] 27), (.l 9, .box [.v (.int .i64 p.first), .v (.slice ap p.l.length cp), .v (.bool p.done)] 27), (.l 14, .box [.v (.int .i64 p.first), .v (.slice ao p.l.length co), .v (.bool (A.done || B.done))] 27)], F'⟩ := by
                    intro b hb
                    subst hb
                    refine hK22 _ ?_
                    clear hK22
                    refine SC.cond ?_
                    simp -implicitDefEqProofs only [push_cast, ↓reduceIte, Nat.reduceEqDiff, Nat.reduceAdd, Nat.reduceMul, Nat.reduceSub, Nat.reduceLeDiff, Nat.reduceLT, reduceCtorEq]
                    refine ⟨fun h5 => ?_, fun h5 => ?_⟩
                    · skip
                      have hj := h5
                      simp only [mJoin, Bool.and_eq_true, decide_eq_true_eq] at hj
                      refine SC.seqN [2, 6, 8, 9, 14] [.l 6, .l 8, .l 9, .l 14, .l 127] fun K23 hK23 => ?_
                      refine SC.seqN [2, 6, 8, 9, 14, 108] [.l 6, .l 8, .l 9, .l 14, .l 127] fun K24 hK24 => SC.drawnP (.take 2 (.load 0 (.load 3 (.forkE 1 [96] (.take 4 (.take 5 (.take 8 (.load 6 (.load 9 (.take 10 (.take 11 (.load 12 (.forkE 7 [96, 102, 105] (.take 13 (.take 14 (.done))) (.stop)))))))))) (.stop))))) (by kernel_rfl) (by kernel_rfl) (fun _ _ h => h) ?_
                      simp -implicitDefEqProofs only [push_cast, ↓reduceIte, Nat.reduceEqDiff, Nat.reduceAdd, Nat.reduceMul, Nat.reduceSub, Nat.reduceLeDiff, Nat.reduceLT, reduceCtorEq]
                      have key24 : ∀ b, b = forkE e p → K24 ⟨[(2, .v (.int .i64 w)), (6, .own (.l 6) 0), (8, .own (.l 8) 0), (9, .own (.l 9) 0), (14, .own (.l 14) 0), (108, .v (.bool b))], [(.l 6, .box [.v (.int .i64 0), .v (.slice none 0 0), .v (.bool false)] 27), (.l 8, .box [.v (.int .i64 e.first), .v (.slice ae e.l.length ce), .v (.bool e.done)] 27), (.l 9, .box [.v (.int .i64 p.first), .v (.slice ap p.l.length cp), .v (.bool p.done)] 27), (.l 14, .box [.v (.int .i64 p.first), .v (.slice ao p.l.length co), .v (.bool (A.done || B.done))] 27)], F'⟩ := by
                        intro b hb
                        subst hb
                        refine hK24 _ ?_
                        clear hK24
                        refine SC.cond ?_
                        simp -implicitDefEqProofs only [push_cast, ↓reduceIte, Nat.reduceEqDiff, Nat.reduceAdd, Nat.reduceMul, Nat.reduceSub, Nat.reduceLeDiff, Nat.reduceLT, reduceCtorEq]
                        refine ⟨fun h6 => ?_, fun h6 => ?_⟩
                        · skip
                          refine SC.seqN [6, 7] [.l 6, .l 127] fun K25 hK25 => SC.region ?_
                          simp -implicitDefEqProofs only [push_cast, ↓reduceIte, Nat.reduceEqDiff, Nat.reduceAdd, Nat.reduceMul, Nat.reduceSub, Nat.reduceLeDiff, Nat.reduceLT, reduceCtorEq]
                          refine hK25 _ ?_
                          clear hK25
                          refine SC.ret ?_
                          simp -implicitDefEqProofs only [push_cast, ↓reduceIte, Nat.reduceEqDiff, Nat.reduceAdd, Nat.reduceMul, Nat.reduceSub, Nat.reduceLeDiff, Nat.reduceLT, reduceCtorEq, Tryd.f10]
                          rw [hF4 (by simp [forkB, h6])]
                          exact ⟨_, rfl, isPl0 _⟩
                        · skip
                          refine SC.skip ?_
                          simp -implicitDefEqProofs only [push_cast, ↓reduceIte, Nat.reduceEqDiff, Nat.reduceAdd, Nat.reduceMul, Nat.reduceSub, Nat.reduceLeDiff, Nat.reduceLT, reduceCtorEq]
                          refine hK23 _ ?_
                          clear hK23
                          refine SC.seqN [2, 6, 8, 9, 14, 15] [.l 6, .l 8, .l 9, .l 14, .l 127] fun K26 hK26 => SC.region ?_
                          simp -implicitDefEqProofs only [push_cast, ↓reduceIte, Nat.reduceEqDiff, Nat.reduceAdd, Nat.reduceMul, Nat.reduceSub, Nat.reduceLeDiff, Nat.reduceLT, reduceCtorEq]
                          refine ⟨by omega, ?_⟩
                          refine hK26 _ ?_
                          clear hK26
                          refine SC.drawnP (.take 0 (.take 2 (.take 4 (.take 6 (.take 9 (.load 1 (.take 3 (.take 12 (.load 5 (.take 7 (.load 10 (.forkE 8 [116, 120, 125] (.forkE 11 [116, 120] (.forkE 13 [120] (.take 14 (.fork 15 (.done) (.stop))) (.stop)) (.stop)) (.stop))))))))))))) (by kernel_rfl) (by kernel_rfl) (fun _ _ h => h) ?_
                          simp -implicitDefEqProofs only [push_cast, ↓reduceIte, Nat.reduceEqDiff, Nat.reduceAdd, Nat.reduceMul, Nat.reduceSub, Nat.reduceLeDiff, Nat.reduceLT, reduceCtorEq]
                          have hb5 : (max 0 (p.first - e.first)).toNat ≤ 1000 := by unfold Pl.next at hj; omega
                          obtain ⟨ad, had, hrow1⟩ := slA_some hFe hex (by omega) ce
                          have hn1 : (e.l.take (max 0 (p.first - e.first)).toNat).length = (max 0 (p.first - e.first)).toNat := by rw [List.length_take]; unfold Pl.next at hj; omega
                          have hrow2 : F'.to (rowF (some ad) (segsC (e.l.take (max 0 (p.first - e.first)).toNat))) := by
                            rw [← segsC_take]
                            exact rowF_take (Fact.to_trans hto hrow1) _
                          refine ⟨by omega, by unfold Pl.next at hj; omega, ?_⟩
                          rw [had]
                          refine callL_fnR 124 (cloneR_fn (e.l.take (max 0 (p.first - e.first)).toNat) ad _ ce hn1 F' hrow2 (by rw [hn1]; omega)) rfl (fun _ h => h) (by simp -implicitDefEqProofs only [push_cast, ↓reduceIte, Nat.reduceEqDiff, Nat.reduceAdd, Nat.reduceMul, Nat.reduceSub, Nat.reduceLeDiff, Nat.reduceLT, reduceCtorEq]) ?_
                          simp -implicitDefEqProofs only [push_cast, ↓reduceIte, Nat.reduceEqDiff, Nat.reduceAdd, Nat.reduceMul, Nat.reduceSub, Nat.reduceLeDiff, Nat.reduceLT, reduceCtorEq]
                          refine apF_segs p.l hFp' rfl rfl ⟨by rw [mxl]; omega, by simp only []; omega⟩ ?_
                          simp -implicitDefEqProofs only [push_cast, ↓reduceIte, Nat.reduceEqDiff, Nat.reduceAdd, Nat.reduceMul, Nat.reduceSub, Nat.reduceLeDiff, Nat.reduceLT, reduceCtorEq]
                          refine hK20 _ ?_
                          refine SC.frzRow (k := .l 127) rfl ?_ fun a' b cp' hcp' => ?_
                          · simp only [List.length_append, segsC_length, hn1]; omega
                          simp -implicitDefEqProofs only [push_cast, ↓reduceIte, Nat.reduceEqDiff, Nat.reduceAdd, Nat.reduceMul, Nat.reduceSub, Nat.reduceLeDiff, Nat.reduceLT, reduceCtorEq]
                          have hl2 : (e.l.take (max 0 (p.first - e.first)).toNat ++ p.l).length = (max 0 (p.first - e.first)).toNat + p.l.length := by rw [List.length_append, hn1]
                          have hkk := key20 ⟨p.first - max 0 (p.first - e.first), e.l.take (max 0 (p.first - e.first)).toNat ++ p.l, A.done || B.done⟩ a' cp' (F'.and (rowF a' (segsC (e.l.take (max 0 (p.first - e.first)).toNat) ++ segsC p.l))) (by simpa using h6) (by simp only [mOut, h5, if_true, mBefore]) (by simp only [hl2]; exact hcp') (by simp only [segsC_append]; exact Fact.to_right (Fact.to_refl _))
                          simp only [hl2] at hkk
                          exact hJ20 _ hkk
                      clear hK13 hK20 hK23 hK24
                      have hp0 : ∀ h : 0 < p.l.length, p.l[0]? = some p.l[0] := fun h => List.getElem?_eq_getElem h
                      repeat' (first
                        | (with_reducible refine And.intro (rowF_some hFp' (segsC_ne (by omega))) ?_)
                        | (have h77 : 0 < p.l.length := by omega
                           with_reducible refine loadSegC 0 hFp' (hp0 h77) ?_ ?_ ?_
                           · omega
                           · omega
                           simp -implicitDefEqProofs only [push_cast, ↓reduceIte, Nat.reduceEqDiff, Nat.reduceAdd, Nat.reduceMul, Nat.reduceSub, Nat.reduceLeDiff, Nat.reduceLT, reduceCtorEq, segC])
                        | (with_reducible refine callL_fn0 (next_fn e _ F' hPe' hke) ?_ (fun _ h => h) ?_
                           · rfl
                           intro v G hv
                           subst hv
                           simp -implicitDefEqProofs only [push_cast, ↓reduceIte, Nat.reduceEqDiff, Nat.reduceAdd, Nat.reduceMul, Nat.reduceSub, Nat.reduceLeDiff, Nat.reduceLT, reduceCtorEq])
                        | (with_reducible refine callL_fn0 (edge_fn e _ F' hPe' hke hse) ?_ (fun _ h => h) ?_
                           · rfl
                           intro v G hv
                           subst hv
                           simp -implicitDefEqProofs only [push_cast, ↓reduceIte, Nat.reduceEqDiff, Nat.reduceAdd, Nat.reduceMul, Nat.reduceSub, Nat.reduceLeDiff, Nat.reduceLT, reduceCtorEq])
                        | (with_reducible refine And.intro (by omega) ?_)
                        | (with_reducible refine And.intro ?_ ?_)
                        | intro h)
                      all_goals (refine key24 _ ?_; clear key24 key20 he hp hF4 hF5; simp only [forkE, hp0 hj.2.1]; simp [hj.1, hj.2.1, *])
                    · skip
                      refine SC.skip ?_
                      simp -implicitDefEqProofs only [push_cast, ↓reduceIte, Nat.reduceEqDiff, Nat.reduceAdd, Nat.reduceMul, Nat.reduceSub, Nat.reduceLeDiff, Nat.reduceLT, reduceCtorEq]
                      exact key20 ⟨p.first, p.l, A.done || B.done⟩ ao co F' (by
                        have hj := h5
                        simp only [mJoin, Bool.and_eq_false_iff, decide_eq_false_iff_not] at hj
                        simp only [forkE, Bool.and_eq_false_iff, decide_eq_false_iff_not]
                        omega) (by simp only [mOut, h5]; rfl) hco hrow
                  clear hK13 hK20 hK22
                  repeat' (first
                    | (with_reducible refine callL_fn0 (next_fn e _ F' hPe' hke) ?_ (fun _ h => h) ?_
                       · rfl
                       intro v G hv
                       subst hv
                       simp -implicitDefEqProofs only [push_cast, ↓reduceIte, Nat.reduceEqDiff, Nat.reduceAdd, Nat.reduceMul, Nat.reduceSub, Nat.reduceLeDiff, Nat.reduceLT, reduceCtorEq])
                    | (with_reducible refine And.intro (by omega) ?_)
                    | (with_reducible refine And.intro ?_ ?_)
                    | intro h)
                  all_goals (refine key22 _ ?_; clear key22; rw [Bool.eq_iff_iff]; simp only [mJoin, Bool.and_eq_true, decide_eq_true_eq, Bool.false_eq_true, false_iff, true_iff]; omega)
                clear hK13 hK19
                repeat' (first
                  | (with_reducible refine callL_fn (clone_fn p.l ap cp F hFp (by omega) hcp) ?_ (fun _ h => h) ?_
                     · rfl
                     rintro v G ⟨ao, co, rfl, hco, hG⟩
                     simp -implicitDefEqProofs only [push_cast, ↓reduceIte, Nat.reduceEqDiff, Nat.reduceAdd, Nat.reduceMul, Nat.reduceSub, Nat.reduceLeDiff, Nat.reduceLT, reduceCtorEq])
                  | (with_reducible refine And.intro (by omega) ?_)
                  | (with_reducible refine And.intro ?_ ?_)
                  | intro h)
                all_goals exact key19 _ _ _ _ (by simp [*]) (Fact.to_left (Fact.to_refl _)) (by assumption) (Fact.to_right (by assumption))
          clear hK7 hK8
          repeat' (first
            | (with_reducible refine callL_fn0 (next_fn e _ F hPe hke) ?_ (fun _ h => h) ?_
               · rfl
               intro v G hv
               subst hv
               simp -implicitDefEqProofs only [push_cast, ↓reduceIte, Nat.reduceEqDiff, Nat.reduceAdd, Nat.reduceMul, Nat.reduceSub, Nat.reduceLeDiff, Nat.reduceLT, reduceCtorEq])
            | (with_reducible refine callL_fn0 (next_fn p _ F hPp hkp) ?_ (fun _ h => h) ?_
               · rfl
               intro v G hv
               subst hv
               simp -implicitDefEqProofs only [push_cast, ↓reduceIte, Nat.reduceEqDiff, Nat.reduceAdd, Nat.reduceMul, Nat.reduceSub, Nat.reduceLeDiff, Nat.reduceLT, reduceCtorEq])
            | (with_reducible refine And.intro (by omega) ?_)
            | (with_reducible refine And.intro ?_ ?_)
            | intro h)
          all_goals (refine key8 _ ?_; clear key8 he hp hF4 hF5; simp [*])
        refine SC.seqN [2, 3, 4, 6, 8, 9, 29] [.l 3, .l 4, .l 6, .l 8, .l 9, .l 127] fun K27 hK27 => SC.drawnP (.load 0 (.load 2 (.forkE 1 [3] (.fork 3 (.take 4 (.done)) (.stop)) (.stop)))) (by kernel_rfl) (by kernel_rfl) (fun _ _ h => h) ?_
        simp -implicitDefEqProofs only [push_cast, ↓reduceIte, Nat.reduceEqDiff, Nat.reduceAdd, Nat.reduceMul, Nat.reduceSub, Nat.reduceLeDiff, Nat.reduceLT, reduceCtorEq]
        have key27 : ∀ b, b = decide (A.next < B.next) → K27 ⟨[(2, .v (.int .i64 w)), (3, .own (.l 3) 0), (4, .own (.l 4) 0), (6, .own (.l 6) 0), (8, .own (.l 8) 0), (9, .own (.l 9) 0), (29, .v (.bool b))], [(.l 3, .box [.v (.int .i64 A.first), .v (.slice aA A.l.length cA), .v (.bool A.done)] 27), (.l 4, .box [.v (.int .i64 B.first), .v (.slice aB B.l.length cB), .v (.bool B.done)] 27), (.l 6, .box [.v (.int .i64 0), .v (.slice none 0 0), .v (.bool false)] 27), (.l 8, .box [.v (.int .i64 B.first), .v (.slice aB B.l.length cB), .v (.bool B.done)] 27), (.l 9, .box [.v (.int .i64 A.first), .v (.slice aA A.l.length cA), .v (.bool A.done)] 27)], F⟩ := by
          intro b hb
          subst hb
          refine hK27 _ ?_
          clear hK27
          refine SC.cond ?_
          simp -implicitDefEqProofs only [push_cast, ↓reduceIte, Nat.reduceEqDiff, Nat.reduceAdd, Nat.reduceMul, Nat.reduceSub, Nat.reduceLeDiff, Nat.reduceLT, reduceCtorEq]
          refine ⟨fun h7 => ?_, fun h7 => ?_⟩
          · skip
            refine SC.drawnP (.load 0 (.load 1 (.forkE 2 [4] (.fork 3 (.done) (.stop)) (.stop)))) (by kernel_rfl) (by kernel_rfl) (fun _ _ h => h) ?_
            simp -implicitDefEqProofs only [push_cast, ↓reduceIte, Nat.reduceEqDiff, Nat.reduceAdd, Nat.reduceMul, Nat.reduceSub, Nat.reduceLeDiff, Nat.reduceLT, reduceCtorEq]
            exact key6 A B aA aB cA cB (by simp [mE, h7]) (by simp [mL, h7]) hcA hcB hFA hFB
          · skip
            refine SC.skip ?_
            simp -implicitDefEqProofs only [push_cast, ↓reduceIte, Nat.reduceEqDiff, Nat.reduceAdd, Nat.reduceMul, Nat.reduceSub, Nat.reduceLeDiff, Nat.reduceLT, reduceCtorEq]
            exact key6 B A aB aA cB cA (by simp [mE]; omega) (by simp [mL]; omega) hcB hcA hFB hFA
        clear hK6 hK27
        have hPA : isPl A F (plV A.first aA A.l.length cA A.done) := ⟨aA, cA, rfl, hcA, hFA⟩
        have hPB : isPl B F (plV B.first aB B.l.length cB B.done) := ⟨aB, cB, rfl, hcB, hFB⟩
        repeat' (first
          | (with_reducible refine callL_fn0 (next_fn A _ F hPA hkA) ?_ (fun _ h => h) ?_
             · rfl
             intro v G hv
             subst hv
             simp -implicitDefEqProofs only [push_cast, ↓reduceIte, Nat.reduceEqDiff, Nat.reduceAdd, Nat.reduceMul, Nat.reduceSub, Nat.reduceLeDiff, Nat.reduceLT, reduceCtorEq])
          | (with_reducible refine callL_fn0 (next_fn B _ F hPB hkB) ?_ (fun _ h => h) ?_
             · rfl
             intro v G hv
             subst hv
             simp -implicitDefEqProofs only [push_cast, ↓reduceIte, Nat.reduceEqDiff, Nat.reduceAdd, Nat.reduceMul, Nat.reduceSub, Nat.reduceLeDiff, Nat.reduceLT, reduceCtorEq])
          | (with_reducible refine And.intro (by omega) ?_)
          | (with_reducible refine And.intro ?_ ?_)
          | intro h)
        all_goals exact key27 _ rfl
      clear hK5
      repeat' (first | exact key5 | refine And.intro ?_ ?_)
  clear hK2 hK3
  refine ⟨fun h => ?_, fun h => ?_⟩
  all_goals exact key3 _ (by simp [*])
end Go.Proofs.YtmamodnpghlgcaaDoor
/- The specification's Merge. -/

set_option linter.unusedSimpArgs false
set_option linter.unusedVariables false
set_option maxRecDepth 100000
set_option maxHeartbeats 4000000
namespace Go.Proofs.YtmamodnpghlgcaaDoor
open Go.RowKit
/-- A playlist with an error. -/
def isMade (p : Pl) (e : Int) (G : Fact) (v : Value) : Prop := ∃ a c, v = .agg #[.int .i64 p.first, .slice a p.l.length c, .bool p.done, .int .i64 e] ∧ p.l.length ≤ c ∧ G.to (rowF a (segsC p.l))
theorem isMade0 (e : Int) (F : Fact) : isMade pl0 e F (.agg #[.int .i64 0, .slice none 0 0, .bool false, .int .i64 e]) := ⟨none, 0, rfl, Nat.le_refl _, rowF_nil _ _⟩
def befL (l : List Seg) (n : Int) : List Seg := l.filter fun s => decide (s.num < n)
def accL (e p : Pl) : List Seg := if mJoin e p then befL e.l p.first else []
def refOut (e p : Pl) (d : Bool) : Pl := ⟨match (accL e p ++ p.l)[0]? with | some s => s.num | none => p.first, accL e p ++ p.l, d⟩
def refMergeP (A B : Pl) (w : Int) : Pl × Int := if w < 1 ∨ 100 < w then (pl0, 1) else if forkB (mE A B) (mL A B) then (pl0, 430) else (refCut (refOut (mE A B) (mL A B) (A.done || B.done)) w, 0)
theorem befL_succ {l : List Seg} {i : Nat} (h : i < l.length) (n : Int) : befL (l.take (i + 1)) n = if l[i].num < n then befL (l.take i) n ++ [l[i]] else befL (l.take i) n := by
  unfold befL
  rw [List.take_succ_eq_append_getElem h, List.filter_append]
  by_cases hn : l[i].num < n <;> simp [hn]
theorem befL_le (l : List Seg) (n : Int) : (befL l n).length ≤ l.length := List.length_filter_le _ _
end Go.Proofs.YtmamodnpghlgcaaDoor
/- Lists of numbers in memory; slices.IndexFunc over numbers; Part, End. -/

set_option linter.unusedSimpArgs false
set_option linter.unusedVariables false
set_option maxRecDepth 100000
set_option maxHeartbeats 4000000
namespace Go.Proofs.YtmamodnpghlgcaaDoor
open Go.RowKit
def ints (l : List Int) : List Value := l.map (Value.int .i64)
theorem ints_length (l : List Int) : (ints l).length = l.length := by simp [ints]
theorem ints_ne {l : List Int} (h : 0 < l.length) : ints l ≠ [] := by intro hn; have := ints_length l; rw [hn] at this; simp at this; omega
theorem loadInt {n : Nat} {F : Fact} {a : Option Addr} {l : List Int} {k : SV → Prop} {j : Int} (i : Nat) {x : Int} (h : F.to (rowF a (ints l))) (hi : l[i]? = some x) (hj : j = (i : Int)) (hk : k (.v (.int .i64 x))) : loadF (some (false, n)) F ((a.getD default).add (j.toNat * 1)) k := by
  subst hj
  rw [Int.toNat_natCast, Nat.mul_one]
  exact loadF_one (.int .i64 x) h (by simp [ints, hi]) hk
def isInts (l : List Int) (F : Fact) (v : Value) : Prop := ∃ a c, v = .slice a l.length c ∧ l.length ≤ c ∧ F.to (rowF a (ints l))
theorem isInts.to {l : List Int} {F G : Fact} {v : Value} (h : isInts l F v) (hg : G.to F) : isInts l G v := by
  obtain ⟨a, c, h1, h2, h3⟩ := h
  exact ⟨a, c, h1, h2, Fact.to_trans hg h3⟩
theorem isPl.to {p : Pl} {F G : Fact} {v : Value} (h : isPl p F v) (hg : G.to F) : isPl p G v := by
  obtain ⟨a, c, h1, h2, h3⟩ := h
  exact ⟨a, c, h1, h2, Fact.to_trans hg h3⟩
def idxI (l : List Int) (f : Int → Bool) : Int := match l.findIdx? f with | some i => (i : Int) | none => -1
theorem idxI_none {l : List Int} {f : Int → Bool} (h : ∀ (j : Nat) s, l[j]? = some s → f s = false) : idxI l f = -1 := by
  have : l.findIdx? f = none := by
    rw [List.findIdx?_eq_none_iff]
    intro s hs
    obtain ⟨j, hj⟩ := List.getElem?_of_mem hs
    exact h j s hj
  simp [idxI, this]
theorem idxI_some {l : List Int} {f : Int → Bool} {i : Nat} (hi : i < l.length) (h : f l[i] = true) (hb : ∀ j (hj : j < i), f l[j] = false) : idxI l f = i := by
  have : l.findIdx? f = some i := by
    rw [List.findIdx?_eq_some_iff_getElem]
    exact ⟨hi, h, fun j hj => by simp [hb j hj]⟩
  simp [idxI, this]
theorem idxI_lt (l : List Int) (f : Int → Bool) : idxI l f < l.length ∧ -1 ≤ idxI l f := by
  unfold idxI
  cases h : l.findIdx? f with
  | none => simp only; omega
  | some i =>
    obtain ⟨h1, _⟩ := List.findIdx?_eq_some_iff_getElem.1 h
    simp only; omega
theorem indexInt_fn (l : List Int) (a : Option Addr) (c : Nat) (g : FuncId) (caps : Array Value) (f : Int → Bool) (F : Fact) (hF : F.to (rowF a (ints l))) (hl : l.length < 1000000) (hok : fnOK Tryd.prog g = true) (hg : ∀ s ∈ l, Fn Tryd.prog g (.int .i64 s :: caps.toList) F fun v _ => v = .bool (f s)) :
    Fn Tryd.prog 44 [.slice a l.length c, .func (.func g) #[] caps] F fun v _ => v = .int .i64 (idxI l f) := by
  refine Fn.of_body Tryd.func44 rfl (Nat.le_of_ble_eq_true rfl) (Nat.le_of_ble_eq_true rfl) (by kernel_rfl) ?_
  refine SC.seqN [0, 1] [] fun K1 hK1 => SC.region ?_
  simp -implicitDefEqProofs only [push_cast, ↓reduceIte, Nat.reduceEqDiff, Nat.reduceAdd, Nat.reduceMul, Nat.reduceSub, Nat.reduceLeDiff, Nat.reduceLT, reduceCtorEq]
  refine hK1 _ ?_
  clear hK1
  refine SC.seqN [] [] fun K2 hK2 => ?_
  refine SC.seqN [0, 1, 7, 8] [] fun K3 hK3 => SC.region ?_
  simp -implicitDefEqProofs only [push_cast, ↓reduceIte, Nat.reduceEqDiff, Nat.reduceAdd, Nat.reduceMul, Nat.reduceSub, Nat.reduceLeDiff, Nat.reduceLT, reduceCtorEq]
  refine hK3 _ ?_
  clear hK3
  refine SC.block ?_
  refine SC.loop (fun i : Nat => ⟨[(0, .v (.slice a l.length c)), (1, .v (.func (.func g) #[] caps)), (7, .v (.int .i64 l.length)), (8, .v (.int .i64 i))], [], F⟩) (fun i => i ≤ l.length ∧ ∀ j s, j < i → l[j]? = some s → f s = false) (fun i => l.length - i) 0 (Le.refl _) ⟨Nat.zero_le _, fun j s hj => absurd hj (Nat.not_lt_zero j)⟩ fun i hx => ?_
  refine SC.seqN [0, 1, 7, 8, 9] [] fun K4 hK4 => SC.region ?_
  simp -implicitDefEqProofs only [push_cast, ↓reduceIte, Nat.reduceEqDiff, Nat.reduceAdd, Nat.reduceMul, Nat.reduceSub, Nat.reduceLeDiff, Nat.reduceLT, reduceCtorEq]
  refine hK4 _ ?_
  clear hK4
  refine SC.seqN [0, 1, 7, 8] [] fun K5 hK5 => ?_
  refine SC.cond ?_
  simp -implicitDefEqProofs only [push_cast, ↓reduceIte, Nat.reduceEqDiff, Nat.reduceAdd, Nat.reduceMul, Nat.reduceSub, Nat.reduceLeDiff, Nat.reduceLT, reduceCtorEq]
  refine ⟨fun h1 => ?_, fun h1 => ?_⟩
  · skip
    refine SC.skip ?_
    simp -implicitDefEqProofs only [push_cast, ↓reduceIte, Nat.reduceEqDiff, Nat.reduceAdd, Nat.reduceMul, Nat.reduceSub, Nat.reduceLeDiff, Nat.reduceLT, reduceCtorEq]
    refine hK5 _ ?_
    clear hK5
    refine SC.seqN [0, 1, 7, 8] [] fun K6 hK6 => ?_
    refine SC.block ?_
    refine SC.seqN [0, 1, 5, 7, 8] [] fun K7 hK7 => SC.region ?_
    simp -implicitDefEqProofs only [push_cast, ↓reduceIte, Nat.reduceEqDiff, Nat.reduceAdd, Nat.reduceMul, Nat.reduceSub, Nat.reduceLeDiff, Nat.reduceLT, reduceCtorEq]
    refine hK7 _ ?_
    clear hK7
    refine SC.seqN [0, 1, 5, 7, 8, 16] [] fun K8 hK8 => SC.region ?_
    simp -implicitDefEqProofs only [push_cast, ↓reduceIte, Nat.reduceEqDiff, Nat.reduceAdd, Nat.reduceMul, Nat.reduceSub, Nat.reduceLeDiff, Nat.reduceLT, reduceCtorEq]
    have hil : i < l.length := by omega
    have hp : l[i]? = some l[i] := List.getElem?_eq_getElem hil
    refine ⟨by omega, rowF_some hF (ints_ne (by omega)), loadInt i hF hp rfl ?_⟩
    simp -implicitDefEqProofs only [push_cast, ↓reduceIte, Nat.reduceEqDiff, Nat.reduceAdd, Nat.reduceMul, Nat.reduceSub, Nat.reduceLeDiff, Nat.reduceLT, reduceCtorEq]
    refine ⟨hok, callL_fn0 (hg l[i] (List.getElem_mem hil)) (by simp [vals_cons, vals_map]) (fun _ h => h) fun v G hv => ?_⟩
    subst hv
    simp -implicitDefEqProofs only [push_cast, ↓reduceIte, Nat.reduceEqDiff, Nat.reduceAdd, Nat.reduceMul, Nat.reduceSub, Nat.reduceLeDiff, Nat.reduceLT, reduceCtorEq]
    refine hK8 _ ?_
    clear hK8
    refine SC.cond ?_
    simp -implicitDefEqProofs only [push_cast, ↓reduceIte, Nat.reduceEqDiff, Nat.reduceAdd, Nat.reduceMul, Nat.reduceSub, Nat.reduceLeDiff, Nat.reduceLT, reduceCtorEq]
    refine ⟨fun h2 => ?_, fun h2 => ?_⟩
    · skip
      refine SC.seqN [4] [] fun K9 hK9 => SC.region ?_
      simp -implicitDefEqProofs only [push_cast, ↓reduceIte, Nat.reduceEqDiff, Nat.reduceAdd, Nat.reduceMul, Nat.reduceSub, Nat.reduceLeDiff, Nat.reduceLT, reduceCtorEq]
      refine hK9 _ ?_
      clear hK9
      refine SC.ret ?_
      simp -implicitDefEqProofs only [push_cast, ↓reduceIte, Nat.reduceEqDiff, Nat.reduceAdd, Nat.reduceMul, Nat.reduceSub, Nat.reduceLeDiff, Nat.reduceLT, reduceCtorEq, Tryd.f44]
      rw [idxI_some hil h2 fun j hj => hx.2 j _ hj (List.getElem?_eq_getElem (by omega))]
    · skip
      refine SC.skip ?_
      simp -implicitDefEqProofs only [push_cast, ↓reduceIte, Nat.reduceEqDiff, Nat.reduceAdd, Nat.reduceMul, Nat.reduceSub, Nat.reduceLeDiff, Nat.reduceLT, reduceCtorEq]
      refine hK6 _ ?_
      clear hK6
      refine SC.region ?_
      simp -implicitDefEqProofs only [push_cast, ↓reduceIte, Nat.reduceEqDiff, Nat.reduceAdd, Nat.reduceMul, Nat.reduceSub, Nat.reduceLeDiff, Nat.reduceLT, reduceCtorEq]
      refine ⟨by omega, i + 1, ⟨by omega, fun j s hj hs => ?_⟩, by omega, Le.trans (Le.norm _ [0, 1, 7, 8] []) ?_⟩
      · rcases Nat.lt_succ_iff_lt_or_eq.1 hj with hj | rfl
        · exact hx.2 j s hj hs
        · rw [hp] at hs
          obtain rfl := Option.some.inj hs
          exact h2
      · simp -implicitDefEqProofs only [push_cast, ↓reduceIte, Nat.reduceEqDiff, Nat.reduceAdd, Nat.reduceMul, Nat.reduceSub, Nat.reduceLeDiff, Nat.reduceLT, reduceCtorEq]
        exact Le.refl _
  · skip
    refine SC.exit ?_
    simp -implicitDefEqProofs only [push_cast, ↓reduceIte, Nat.reduceEqDiff, Nat.reduceAdd, Nat.reduceMul, Nat.reduceSub, Nat.reduceLeDiff, Nat.reduceLT, reduceCtorEq]
    refine hK2 _ ?_
    clear hK2
    refine SC.seqN [4] [] fun K10 hK10 => SC.region ?_
    simp -implicitDefEqProofs only [push_cast, ↓reduceIte, Nat.reduceEqDiff, Nat.reduceAdd, Nat.reduceMul, Nat.reduceSub, Nat.reduceLeDiff, Nat.reduceLT, reduceCtorEq]
    refine hK10 _ ?_
    clear hK10
    refine SC.ret ?_
    simp -implicitDefEqProofs only [push_cast, ↓reduceIte, Nat.reduceEqDiff, Nat.reduceAdd, Nat.reduceMul, Nat.reduceSub, Nat.reduceLeDiff, Nat.reduceLT, reduceCtorEq, Tryd.f44]
    rw [idxI_none fun j s hs => hx.2 j s (by have := (List.getElem?_eq_some_iff.1 hs).1; omega) hs]
theorem containsInt_fn (l : List Int) (a : Option Addr) (c : Nat) (g : FuncId) (caps : Array Value) (f : Int → Bool) (F : Fact) (hF : F.to (rowF a (ints l))) (hl : l.length < 1000000) (hok : fnOK Tryd.prog g = true) (hg : ∀ s ∈ l, Fn Tryd.prog g (.int .i64 s :: caps.toList) F fun v _ => v = .bool (f s)) :
    Fn Tryd.prog 41 [.slice a l.length c, .func (.func g) #[] caps] F fun v _ => v = .bool (l.any f) := by
  refine Fn.of_body Tryd.func41 rfl (Nat.le_of_ble_eq_true rfl) (Nat.le_of_ble_eq_true rfl) (by kernel_rfl) ?_
  refine SC.seqN [0, 1] [] fun K1 hK1 => SC.region ?_
  simp -implicitDefEqProofs only [push_cast, ↓reduceIte, Nat.reduceEqDiff, Nat.reduceAdd, Nat.reduceMul, Nat.reduceSub, Nat.reduceLeDiff, Nat.reduceLT, reduceCtorEq]
  refine hK1 _ ?_
  clear hK1
  refine SC.seqN [4] [] fun K2 hK2 => SC.region ?_
  simp -implicitDefEqProofs only [push_cast, ↓reduceIte, Nat.reduceEqDiff, Nat.reduceAdd, Nat.reduceMul, Nat.reduceSub, Nat.reduceLeDiff, Nat.reduceLT, reduceCtorEq]
  refine callL_fn0 (indexInt_fn l a c g caps f F hF hl hok hg) rfl (fun _ h => h) fun v G hv => ?_
  subst hv
  simp -implicitDefEqProofs only [push_cast, ↓reduceIte, Nat.reduceEqDiff, Nat.reduceAdd, Nat.reduceMul, Nat.reduceSub, Nat.reduceLeDiff, Nat.reduceLT, reduceCtorEq]
  refine hK2 _ ?_
  clear hK2
  refine SC.ret ?_
  simp -implicitDefEqProofs only [push_cast, ↓reduceIte, Nat.reduceEqDiff, Nat.reduceAdd, Nat.reduceMul, Nat.reduceSub, Nat.reduceLeDiff, Nat.reduceLT, reduceCtorEq, Tryd.f41]
  cases hf : l.findIdx? f with
  | none =>
    have h1 : l.any f = false := by rw [List.any_eq_false]; simpa [List.findIdx?_eq_none_iff] using hf
    have h2 : idxI l f = -1 := by simp [idxI, hf]
    rw [h1, h2]; rfl
  | some i =>
    obtain ⟨hi, h3, _⟩ := List.findIdx?_eq_some_iff_getElem.1 hf
    have h1 : l.any f = true := List.any_eq_true.2 ⟨_, List.getElem_mem hi, h3⟩
    have h2 : idxI l f = i := by simp [idxI, hf]
    rw [h1, h2]
    simp
theorem seen1_fn (x t : Int) (b : Nat) (F : Fact) (hF : F.to (cellsF b 0 [.int .i64 t])) : Fn Tryd.prog 45 [.int .i64 x, .pointer (some ⟨b, 0, none⟩)] F fun v _ => v = .bool (decide (t < x)) := by
  refine Fn.of_body Tryd.func45 rfl (Nat.le_of_ble_eq_true rfl) (Nat.le_of_ble_eq_true rfl) (by kernel_rfl) ?_
  refine SC.seqN [0, 1] [] fun K1 hK1 => SC.region ?_
  simp -implicitDefEqProofs only [push_cast, ↓reduceIte, Nat.reduceEqDiff, Nat.reduceAdd, Nat.reduceMul, Nat.reduceSub, Nat.reduceLeDiff, Nat.reduceLT, reduceCtorEq]
  refine hK1 _ ?_
  clear hK1
  refine SC.seqN [3] [] fun K2 hK2 => SC.region ?_
  simp -implicitDefEqProofs only [push_cast, ↓reduceIte, Nat.reduceEqDiff, Nat.reduceAdd, Nat.reduceMul, Nat.reduceSub, Nat.reduceLeDiff, Nat.reduceLT, reduceCtorEq]
  refine loadAt hF ?_
  simp -implicitDefEqProofs only [push_cast, ↓reduceIte, Nat.reduceEqDiff, Nat.reduceAdd, Nat.reduceMul, Nat.reduceSub, Nat.reduceLeDiff, Nat.reduceLT, reduceCtorEq]
  refine hK2 _ ?_
  clear hK2
  refine SC.ret ?_
  simp -implicitDefEqProofs only [push_cast, ↓reduceIte, Nat.reduceEqDiff, Nat.reduceAdd, Nat.reduceMul, Nat.reduceSub, Nat.reduceLeDiff, Nat.reduceLT, reduceCtorEq, Tryd.f45]
def partM (l : List Seg) (f t : Int) (done : Bool) : Pl := match l[0]? with
  | none => pl0
  | some s => ⟨s.num + f, (l.drop f.toNat).take (t - f).toNat, done && decide (t = (l.length : Int))⟩
theorem part_fn (l : List Seg) (a : Option Addr) (c : Nat) (f t : Int) (done : Bool) (F : Fact) (hF : F.to (rowF a (segsC l))) (hl : l.length < 1000000) (hc : l.length ≤ c) (hf : 0 ≤ f) (ht : f ≤ t) (htl : t ≤ l.length) (hs : ∀ s ∈ l, s.Ok) :
    Fn Tryd.prog 9 [.slice a l.length c, .int .i64 f, .int .i64 t, .bool done] F fun v G => isPl (partM l f t done) G v := by
  refine Fn.of_body Tryd.func9 rfl (Nat.le_of_ble_eq_true rfl) (Nat.le_of_ble_eq_true rfl) (by kernel_rfl) ?_
  refine SC.seqN [0, 1, 2, 3, 8] [.l 8, .l 19, .l 24] fun K1 hK1 => SC.region ?_
  simp -implicitDefEqProofs only [push_cast, ↓reduceIte, Nat.reduceEqDiff, Nat.reduceAdd, Nat.reduceMul, Nat.reduceSub, Nat.reduceLeDiff, Nat.reduceLT, reduceCtorEq]
  refine hK1 _ ?_
  clear hK1
  refine SC.seqN [0, 1, 2, 3, 8] [.l 8, .l 19, .l 24] fun K2 hK2 => ?_
  refine SC.seqN [0, 1, 2, 3, 8, 11] [.l 8, .l 19, .l 24] fun K3 hK3 => SC.region ?_
  simp -implicitDefEqProofs only [push_cast, ↓reduceIte, Nat.reduceEqDiff, Nat.reduceAdd, Nat.reduceMul, Nat.reduceSub, Nat.reduceLeDiff, Nat.reduceLT, reduceCtorEq]
  refine hK3 _ ?_
  clear hK3
  refine SC.cond ?_
  simp -implicitDefEqProofs only [push_cast, ↓reduceIte, Nat.reduceEqDiff, Nat.reduceAdd, Nat.reduceMul, Nat.reduceSub, Nat.reduceLeDiff, Nat.reduceLT, reduceCtorEq]
  refine ⟨fun h1 => ?_, fun h1 => ?_⟩
  · skip
    refine SC.seqN [8] [.l 8, .l 19, .l 24] fun K4 hK4 => SC.region ?_
    simp -implicitDefEqProofs only [push_cast, ↓reduceIte, Nat.reduceEqDiff, Nat.reduceAdd, Nat.reduceMul, Nat.reduceSub, Nat.reduceLeDiff, Nat.reduceLT, reduceCtorEq]
    refine hK4 _ ?_
    clear hK4
    refine SC.ret ?_
    simp -implicitDefEqProofs only [push_cast, ↓reduceIte, Nat.reduceEqDiff, Nat.reduceAdd, Nat.reduceMul, Nat.reduceSub, Nat.reduceLeDiff, Nat.reduceLT, reduceCtorEq, Tryd.f9]
    have hn : l = [] := List.eq_nil_of_length_eq_zero (by omega)
    subst hn
    exact isPl0 _
  · skip
    have h0 : 0 < l.length := by omega
    have hg : l[0]? = some l[0] := List.getElem?_eq_getElem h0
    have hsk := hs _ (List.getElem_mem h0)
    have hlen : ((l.drop f.toNat).take (t - f).toNat).length = (t - f).toNat := by rw [List.length_take, List.length_drop]; omega
    have hln2 : t.toNat - f.toNat = (t - f).toNat := by omega
    have hF2 : F.to (rowF (slA a f.toNat c 20) (segsC ((l.drop f.toNat).take (t - f).toNat))) := by
      rw [← segsC_take, ← segsC_drop]
      exact rowF_take (rowF_drop hF _ (by rw [segsC_length]; omega)) _
    unfold Seg.Ok at hsk
    refine SC.skip ?_
    simp -implicitDefEqProofs only [push_cast, ↓reduceIte, Nat.reduceEqDiff, Nat.reduceAdd, Nat.reduceMul, Nat.reduceSub, Nat.reduceLeDiff, Nat.reduceLT, reduceCtorEq]
    refine hK2 _ ?_
    clear hK2
    refine SC.seqN [8] [.l 8, .l 19, .l 24] fun K5 hK5 => SC.drawnP (.take 0 (.take 1 (.take 2 (.take 4 (.take 7 (.take 8 (.take 9 (.take 10 (.take 12 (.load 3 (.take 5 (.forkE 6 [15] (.forkE 11 [15] (.take 13 (.take 14 (.take 15 (.take 16 (.take 17 (.take 18 (.take 19 (.fork 20 (.done) (.stop))))))))) (.stop)) (.stop))))))))))))) (by kernel_rfl) (by kernel_rfl) (fun _ _ h => h) ?_
    simp -implicitDefEqProofs only [push_cast, ↓reduceIte, Nat.reduceEqDiff, Nat.reduceAdd, Nat.reduceMul, Nat.reduceSub, Nat.reduceLeDiff, Nat.reduceLT, reduceCtorEq]
    suffices key5 : ∀ b, b = (done && decide (t = (l.length : Int))) → K5 ⟨[(8, .own (.l 8) 0)], [(.l 8, .box [.v (.int .i64 (l[0].num + f)), .row (.l 24), .v (.bool b)] 27), (.l 24, .row 40 20 (t - f).toNat (segsC ((l.drop f.toNat).take (t - f).toNat)))], F⟩ by
      clear hK5
      simp only [hln2]
      repeat' (first
        | (refine apF_segs ((l.drop f.toNat).take (t - f).toNat) hF2 hlen.symm rfl ⟨by rw [mxl]; omega, by simp only []; omega⟩ ?_
           simp -implicitDefEqProofs only [push_cast, ↓reduceIte, Nat.reduceEqDiff, Nat.reduceAdd, Nat.reduceMul, Nat.reduceSub, Nat.reduceLeDiff, Nat.reduceLT, reduceCtorEq])
        | (with_reducible refine And.intro (rowF_some hF (segsC_ne (by omega))) ?_)
        | (with_reducible refine loadSegC 0 hF hg ?_ ?_ ?_
           · omega
           · omega
           simp -implicitDefEqProofs only [push_cast, ↓reduceIte, Nat.reduceEqDiff, Nat.reduceAdd, Nat.reduceMul, Nat.reduceSub, Nat.reduceLeDiff, Nat.reduceLT, reduceCtorEq, segC])
        | (with_reducible refine And.intro (by omega) ?_)
        | (with_reducible refine And.intro ?_ ?_)
        | intro h
        | exact rfl)
      all_goals (refine key5 _ ?_; simp [*])
    intro b hb
    subst hb
    refine hK5 _ ?_
    clear hK5
    refine SC.frzRow (k := .l 24) rfl (by rw [segsC_length, hlen]) fun a2 b c2 hc2 => ?_
    simp -implicitDefEqProofs only [push_cast, ↓reduceIte, Nat.reduceEqDiff, Nat.reduceAdd, Nat.reduceMul, Nat.reduceSub, Nat.reduceLeDiff, Nat.reduceLT, reduceCtorEq]
    refine SC.ret ?_
    simp -implicitDefEqProofs only [push_cast, ↓reduceIte, Nat.reduceEqDiff, Nat.reduceAdd, Nat.reduceMul, Nat.reduceSub, Nat.reduceLeDiff, Nat.reduceLT, reduceCtorEq, Tryd.f9]
    refine ⟨a2, c2, ?_, ?_, ?_⟩
    · simp only [partM, hg, plV, hlen]
    · simp only [partM, hg, hlen]; exact hc2
    · simp only [partM, hg]; exact Fact.to_right (Fact.to_refl _)
end Go.Proofs.YtmamodnpghlgcaaDoor
/- Push, the specification's Push. -/

set_option linter.unusedSimpArgs false
set_option linter.unusedVariables false
set_option maxRecDepth 100000
set_option maxHeartbeats 4000000
namespace Go.Proofs.YtmamodnpghlgcaaDoor
open Go.RowKit
def pushC (p : Pl) (s : Seg) : Bool := decide (s.num ≠ p.next) || (decide (0 < p.l.length) && decide (s.beg ≠ p.edge))
def pushO (p : Pl) (s : Seg) : Pl := ⟨p.first, p.l ++ [s], false⟩
def pushP (p : Pl) (s : Seg) (w : Int) : Pl × Int := if w < 1 ∨ 100 < w then (pl0, 1) else if p.done then (pl0, 4) else if pushC p s then (pl0, 3) else ((pushO p s).cut w, 0)
theorem segsC_snoc (l : List Seg) (s : Seg) : segsC (l ++ [s]) = segsC l ++ segC s := by rw [segsC_append]; simp [segsC]
theorem pushO_ok {p : Pl} {s : Seg} (hk : p.Ok) (hl : p.l.length ≤ 1000) : (pushO p s).Ok := ⟨by simp only [pushO, List.length_append, List.length_singleton]; omega, hk.f0, hk.f1⟩
theorem push_fn (p : Pl) (v : Value) (s : Seg) (w : Int) (F : Fact) (hp : isPl p F v) (hk : p.Ok) (hl : p.l.length ≤ 1000) (hs : ∀ s ∈ p.l, s.Ok) : Fn Tryd.prog 25 [v, segV s, .int .i64 w] F fun v G => ∃ pv, v = .tuple #[pv, .int .i64 (pushP p s w).2] ∧ isPl (pushP p s w).1 G pv := by
  obtain ⟨a, c, rfl, hc, hF⟩ := hp
  refine Fn.ex fun hex => ?_
  have hP : isPl p F (plV p.first a p.l.length c p.done) := ⟨a, c, rfl, hc, hF⟩
  refine Fn.of_body Tryd.func25 rfl (Nat.le_of_ble_eq_true rfl) (Nat.le_of_ble_eq_true rfl) (by kernel_rfl) ?_
  refine SC.seqN [2, 3, 4, 6] [.l 3, .l 4, .l 6, .l 44, .l 45] fun K1 hK1 => SC.region ?_
  simp -implicitDefEqProofs only [push_cast, ↓reduceIte, Nat.reduceEqDiff, Nat.reduceAdd, Nat.reduceMul, Nat.reduceSub, Nat.reduceLeDiff, Nat.reduceLT, reduceCtorEq, plV, segV, segC]
  refine hK1 _ ?_
  clear hK1
  refine SC.seqM [2, 3, 4, 6] [.l 3, .l 4, .l 6, .l 44, .l 45] fun K2 hK2 hJ2 => ?_
  have key2 : p.done = false → pushC p s = false → ¬ (w < 1 ∨ 100 < w) → K2 ⟨[(2, .v (.int .i64 w)), (3, .own (.l 3) 0), (4, .own (.l 4) 0), (6, .own (.l 6) 0)], [(.l 3, .box [.v (.int .i64 p.first), .v (.slice a p.l.length c), .v (.bool p.done)] 27), (.l 4, .box [.v (.int .i64 s.num), .v (.int .i64 s.beg), .v (.int .i64 s.len), .v (.int .u8 (s.body 0)), .v (.int .u8 (s.body 1)), .v (.int .u8 (s.body 2)), .v (.int .u8 (s.body 3)), .v (.int .u8 (s.body 4)), .v (.int .u8 (s.body 5)), .v (.int .u8 (s.body 6)), .v (.int .u8 (s.body 7)), .v (.int .u8 (s.body 8)), .v (.int .u8 (s.body 9)), .v (.int .u8 (s.body 10)), .v (.int .u8 (s.body 11)), .v (.int .u8 (s.body 12)), .v (.int .u8 (s.body 13)), .v (.int .u8 (s.body 14)), .v (.int .u8 (s.body 15)), .v (.int .i64 s.size)] 40), (.l 6, .box [.v (.int .i64 0), .v (.slice none 0 0), .v (.bool false)] 27)], F⟩ := by
    intro hd hC hw
    refine hK2 _ ?_
    refine SC.seqN [2, 3, 6] [.l 3, .l 6, .l 44, .l 45] fun K3 hK3 => SC.drawnP (.take 0 (.load 1 (.load 3 (.forkE 2 [4] (.fork 4 (.fork 5 (.take 6 (.fork 7 (.done) (.stop))) (.stop)) (.stop)) (.forkE 4 [40] (.fork 2 (.fork 5 (.take 6 (.fork 7 (.done) (.stop))) (.stop)) (.stop)) (.stop)))))) (by kernel_rfl) (by kernel_rfl) (fun _ _ h => h) ?_
    simp -implicitDefEqProofs only [push_cast, ↓reduceIte, Nat.reduceEqDiff, Nat.reduceAdd, Nat.reduceMul, Nat.reduceSub, Nat.reduceLeDiff, Nat.reduceLT, reduceCtorEq]
    suffices key3 : K3 ⟨[(2, .v (.int .i64 w)), (3, .own (.l 3) 0), (6, .own (.l 6) 0)], [(.l 3, .box [.v (.int .i64 p.first), .row (.l 45), .v (.bool p.done)] 27), (.l 6, .box [.v (.int .i64 0), .v (.slice none 0 0), .v (.bool false)] 27), (.l 44, .row 40 20 1 (segC s)), (.l 45, .row 40 20 (p.l.length + 1) (segsC p.l ++ segC s))], F⟩ by
      clear hK3
      cases a with
      | none =>
        have hn := row_nil hF hex rfl
        have key3' : K3 ⟨[(2, .v (.int .i64 w)), (3, .own (.l 3) 0), (6, .own (.l 6) 0)], [(.l 3, .box [.v (.int .i64 p.first), .row (.l 45), .v (.bool p.done)] 27), (.l 6, .box [.v (.int .i64 0), .v (.slice none 0 0), .v (.bool false)] 27), (.l 44, .row 40 20 1 (segC s)), (.l 45, .row 40 20 1 (segC s))], F⟩ := by
          have := key3
          rw [hn] at this
          exact this
        repeat' (first
          | exact key3'
          | exact segC_one s
          | (with_reducible refine callL_fn0 (cloneN_fn F p.l.length c) ?_ (fun _ h => h) ?_
             · rfl
             intro v G hv
             subst hv
             simp -implicitDefEqProofs only [push_cast, ↓reduceIte, Nat.reduceEqDiff, Nat.reduceAdd, Nat.reduceMul, Nat.reduceSub, Nat.reduceLeDiff, Nat.reduceLT, reduceCtorEq])
          | (with_reducible refine And.intro (by omega) ?_)
          | (with_reducible refine And.intro ?_ ?_)
          | intro h
          | exact rfl)
        all_goals (first | omega | (rw [mxl]; omega))
      | some ad =>
        repeat' (first
          | exact key3
          | exact segC_one s
          | (with_reducible refine callL_fnR 42 (cloneR_fn p.l ad p.l.length c rfl F hF (by omega)) ?_ (fun _ h => h) ?_ ?_
             · rfl
             · simp -implicitDefEqProofs only [push_cast, ↓reduceIte, Nat.reduceEqDiff, Nat.reduceAdd, Nat.reduceMul, Nat.reduceSub, Nat.reduceLeDiff, Nat.reduceLT, reduceCtorEq]
             simp -implicitDefEqProofs only [push_cast, ↓reduceIte, Nat.reduceEqDiff, Nat.reduceAdd, Nat.reduceMul, Nat.reduceSub, Nat.reduceLeDiff, Nat.reduceLT, reduceCtorEq])
          | (with_reducible refine And.intro (by omega) ?_)
          | (with_reducible refine And.intro ?_ ?_)
          | intro h
          | exact rfl)
        all_goals (first | omega | (rw [mxl]; omega))
    refine hK3 _ ?_
    clear hK3
    refine SC.frzRow (k := .l 45) rfl (by rw [List.length_append, segsC_length, segC_length]; omega) fun ao b co hco => ?_
    simp -implicitDefEqProofs only [push_cast, ↓reduceIte, Nat.reduceEqDiff, Nat.reduceAdd, Nat.reduceMul, Nat.reduceSub, Nat.reduceLeDiff, Nat.reduceLT, reduceCtorEq]
    refine SC.seqN [6, 7] [.l 6, .l 44, .l 45] fun K4 hK4 => SC.region ?_
    simp -implicitDefEqProofs only [push_cast, ↓reduceIte, Nat.reduceEqDiff, Nat.reduceAdd, Nat.reduceMul, Nat.reduceSub, Nat.reduceLeDiff, Nat.reduceLT, reduceCtorEq]
    have hlo : (p.l ++ [s]).length = p.l.length + 1 := by simp
    refine callL_fn (cut_fn (pushO p s) (plV p.first ao (p.l.length + 1) co p.done) w _ ⟨ao, co, by simp only [pushO, hlo, hd], by simp only [pushO, hlo]; exact hco, by simp only [pushO, segsC_snoc]; exact Fact.to_right (Fact.to_refl _)⟩ (pushO_ok hk hl) ⟨by omega, by omega⟩) rfl (fun _ h => h) ?_
    rintro v G ⟨a2, c2, rfl, hc2, hG⟩
    simp -implicitDefEqProofs only [push_cast, ↓reduceIte, Nat.reduceEqDiff, Nat.reduceAdd, Nat.reduceMul, Nat.reduceSub, Nat.reduceLeDiff, Nat.reduceLT, reduceCtorEq, plV]
    refine hK4 _ ?_
    clear hK4
    refine SC.ret ?_
    simp -implicitDefEqProofs only [push_cast, ↓reduceIte, Nat.reduceEqDiff, Nat.reduceAdd, Nat.reduceMul, Nat.reduceSub, Nat.reduceLeDiff, Nat.reduceLT, reduceCtorEq, Tryd.f25]
    have hm : pushP p s w = ((pushO p s).cut w, 0) := by unfold pushP; rw [if_neg hw, if_neg (by simp [hd]), if_neg (by simp [hC])]
    rw [hm]
    exact ⟨_, rfl, a2, c2, rfl, hc2, Fact.to_right hG⟩
  refine SC.block ?_
  refine SC.seqN [2, 3, 4, 6, 8] [.l 3, .l 4, .l 6, .l 44, .l 45] fun K5 hK5 => SC.region ?_
  simp -implicitDefEqProofs only [push_cast, ↓reduceIte, Nat.reduceEqDiff, Nat.reduceAdd, Nat.reduceMul, Nat.reduceSub, Nat.reduceLeDiff, Nat.reduceLT, reduceCtorEq]
  suffices key5 : ∀ b, b = (decide (w < 1) || decide (100 < w)) → K5 ⟨[(2, .v (.int .i64 w)), (3, .own (.l 3) 0), (4, .own (.l 4) 0), (6, .own (.l 6) 0), (8, .v (.bool b))], [(.l 3, .box [.v (.int .i64 p.first), .v (.slice a p.l.length c), .v (.bool p.done)] 27), (.l 4, .box [.v (.int .i64 s.num), .v (.int .i64 s.beg), .v (.int .i64 s.len), .v (.int .u8 (s.body 0)), .v (.int .u8 (s.body 1)), .v (.int .u8 (s.body 2)), .v (.int .u8 (s.body 3)), .v (.int .u8 (s.body 4)), .v (.int .u8 (s.body 5)), .v (.int .u8 (s.body 6)), .v (.int .u8 (s.body 7)), .v (.int .u8 (s.body 8)), .v (.int .u8 (s.body 9)), .v (.int .u8 (s.body 10)), .v (.int .u8 (s.body 11)), .v (.int .u8 (s.body 12)), .v (.int .u8 (s.body 13)), .v (.int .u8 (s.body 14)), .v (.int .u8 (s.body 15)), .v (.int .i64 s.size)] 40), (.l 6, .box [.v (.int .i64 0), .v (.slice none 0 0), .v (.bool false)] 27)], F⟩ by
    clear hK2 hK5
    refine ⟨fun h => ?_, fun h => ?_⟩
    all_goals exact key5 _ (by simp [*])
  intro b hb
  subst hb
  refine hK5 _ ?_
  clear hK5
  refine SC.cond ?_
  simp -implicitDefEqProofs only [push_cast, ↓reduceIte, Nat.reduceEqDiff, Nat.reduceAdd, Nat.reduceMul, Nat.reduceSub, Nat.reduceLeDiff, Nat.reduceLT, reduceCtorEq]
  refine ⟨fun h1 => ?_, fun h1 => ?_⟩
  · skip
    refine SC.seqN [6, 7] [.l 6, .l 44, .l 45] fun K6 hK6 => SC.region ?_
    simp -implicitDefEqProofs only [push_cast, ↓reduceIte, Nat.reduceEqDiff, Nat.reduceAdd, Nat.reduceMul, Nat.reduceSub, Nat.reduceLeDiff, Nat.reduceLT, reduceCtorEq]
    refine hK6 _ ?_
    clear hK6
    refine SC.ret ?_
    simp -implicitDefEqProofs only [push_cast, ↓reduceIte, Nat.reduceEqDiff, Nat.reduceAdd, Nat.reduceMul, Nat.reduceSub, Nat.reduceLeDiff, Nat.reduceLT, reduceCtorEq, Tryd.f25]
    have hm : pushP p s w = (pl0, 1) := if_pos (by simpa using h1)
    rw [hm]
    exact ⟨_, rfl, isPl0 _⟩
  · skip
    have hw : ¬ (w < 1 ∨ 100 < w) := by simpa using h1
    refine SC.seqN [2, 3, 4, 6, 16] [.l 3, .l 4, .l 6, .l 44, .l 45] fun K7 hK7 => SC.region ?_
    simp -implicitDefEqProofs only [push_cast, ↓reduceIte, Nat.reduceEqDiff, Nat.reduceAdd, Nat.reduceMul, Nat.reduceSub, Nat.reduceLeDiff, Nat.reduceLT, reduceCtorEq]
    refine hK7 _ ?_
    clear hK7
    refine SC.cond ?_
    simp -implicitDefEqProofs only [push_cast, ↓reduceIte, Nat.reduceEqDiff, Nat.reduceAdd, Nat.reduceMul, Nat.reduceSub, Nat.reduceLeDiff, Nat.reduceLT, reduceCtorEq]
    refine ⟨fun h2 => ?_, fun h2 => ?_⟩
    · skip
      refine SC.seqN [6, 7] [.l 6, .l 44, .l 45] fun K8 hK8 => SC.region ?_
      simp -implicitDefEqProofs only [push_cast, ↓reduceIte, Nat.reduceEqDiff, Nat.reduceAdd, Nat.reduceMul, Nat.reduceSub, Nat.reduceLeDiff, Nat.reduceLT, reduceCtorEq]
      refine hK8 _ ?_
      clear hK8
      refine SC.ret ?_
      simp -implicitDefEqProofs only [push_cast, ↓reduceIte, Nat.reduceEqDiff, Nat.reduceAdd, Nat.reduceMul, Nat.reduceSub, Nat.reduceLeDiff, Nat.reduceLT, reduceCtorEq, Tryd.f25]
      have hm : pushP p s w = (pl0, 4) := by unfold pushP; rw [if_neg hw, if_pos h2]
      rw [hm]
      exact ⟨_, rfl, isPl0 _⟩
    · skip
      refine SC.seqN [2, 3, 4, 6, 20] [.l 3, .l 4, .l 6, .l 44, .l 45] fun K9 hK9 => SC.drawnP (.take 0 (.load 1 (.load 2 (.forkE 3 [21] (.take 4 (.take 5 (.take 6 (.load 7 (.take 8 (.take 9 (.take 10 (.take 11 (.load 12 (.load 13 (.forkE 14 [21, 27, 32] (.take 15 (.take 16 (.take 17 (.take 18 (.done))))) (.stop)))))))))))) (.stop))))) (by kernel_rfl) (by kernel_rfl) (fun _ _ h => h) ?_
      simp -implicitDefEqProofs only [push_cast, ↓reduceIte, Nat.reduceEqDiff, Nat.reduceAdd, Nat.reduceMul, Nat.reduceSub, Nat.reduceLeDiff, Nat.reduceLT, reduceCtorEq]
      suffices key9 : ∀ b, b = pushC p s → K9 ⟨[(2, .v (.int .i64 w)), (3, .own (.l 3) 0), (4, .own (.l 4) 0), (6, .own (.l 6) 0), (20, .v (.bool b))], [(.l 3, .box [.v (.int .i64 p.first), .v (.slice a p.l.length c), .v (.bool p.done)] 27), (.l 4, .box [.v (.int .i64 s.num), .v (.int .i64 s.beg), .v (.int .i64 s.len), .v (.int .u8 (s.body 0)), .v (.int .u8 (s.body 1)), .v (.int .u8 (s.body 2)), .v (.int .u8 (s.body 3)), .v (.int .u8 (s.body 4)), .v (.int .u8 (s.body 5)), .v (.int .u8 (s.body 6)), .v (.int .u8 (s.body 7)), .v (.int .u8 (s.body 8)), .v (.int .u8 (s.body 9)), .v (.int .u8 (s.body 10)), .v (.int .u8 (s.body 11)), .v (.int .u8 (s.body 12)), .v (.int .u8 (s.body 13)), .v (.int .u8 (s.body 14)), .v (.int .u8 (s.body 15)), .v (.int .i64 s.size)] 40), (.l 6, .box [.v (.int .i64 0), .v (.slice none 0 0), .v (.bool false)] 27)], F⟩ by
        clear hK2 hK9
        repeat' (first
          | (with_reducible refine callL_fn0 (next_fn p _ F hP hk) ?_ (fun _ h => h) ?_
             · rfl
             intro v G hv
             subst hv
             simp -implicitDefEqProofs only [push_cast, ↓reduceIte, Nat.reduceEqDiff, Nat.reduceAdd, Nat.reduceMul, Nat.reduceSub, Nat.reduceLeDiff, Nat.reduceLT, reduceCtorEq])
          | (with_reducible refine callL_fn0 (edge_fn p _ F hP hk hs) ?_ (fun _ h => h) ?_
             · rfl
             intro v G hv
             subst hv
             simp -implicitDefEqProofs only [push_cast, ↓reduceIte, Nat.reduceEqDiff, Nat.reduceAdd, Nat.reduceMul, Nat.reduceSub, Nat.reduceLeDiff, Nat.reduceLT, reduceCtorEq])
          | (with_reducible refine And.intro (by omega) ?_)
          | (with_reducible refine And.intro ?_ ?_)
          | intro h
          | exact rfl)
        all_goals (refine key9 _ ?_; clear key9 key2; rw [Bool.eq_iff_iff]; simp only [pushC, Bool.or_eq_true, Bool.and_eq_true, decide_eq_true_eq, Bool.false_eq_true, false_iff, true_iff]; omega)
      intro b hb
      subst hb
      refine hK9 _ ?_
      clear hK9
      refine SC.cond ?_
      simp -implicitDefEqProofs only [push_cast, ↓reduceIte, Nat.reduceEqDiff, Nat.reduceAdd, Nat.reduceMul, Nat.reduceSub, Nat.reduceLeDiff, Nat.reduceLT, reduceCtorEq]
      refine ⟨fun h3 => ?_, fun h3 => ?_⟩
      · skip
        refine SC.seqN [6, 7] [.l 6, .l 44, .l 45] fun K10 hK10 => SC.region ?_
        simp -implicitDefEqProofs only [push_cast, ↓reduceIte, Nat.reduceEqDiff, Nat.reduceAdd, Nat.reduceMul, Nat.reduceSub, Nat.reduceLeDiff, Nat.reduceLT, reduceCtorEq]
        refine hK10 _ ?_
        clear hK10
        refine SC.ret ?_
        simp -implicitDefEqProofs only [push_cast, ↓reduceIte, Nat.reduceEqDiff, Nat.reduceAdd, Nat.reduceMul, Nat.reduceSub, Nat.reduceLeDiff, Nat.reduceLT, reduceCtorEq, Tryd.f25]
        have hm : pushP p s w = (pl0, 3) := by unfold pushP; rw [if_neg hw, if_neg (by simp [h2]), if_pos h3]
        rw [hm]
        exact ⟨_, rfl, isPl0 _⟩
      · skip
        refine SC.skip ?_
        simp -implicitDefEqProofs only [push_cast, ↓reduceIte, Nat.reduceEqDiff, Nat.reduceAdd, Nat.reduceMul, Nat.reduceSub, Nat.reduceLeDiff, Nat.reduceLT, reduceCtorEq]
        exact key2 (by simpa using h2) (by simpa using h3) hw
def refPushP (p : Pl) (s : Seg) (w : Int) : Pl × Int := if w < 1 ∨ 100 < w then (pl0, 1) else if p.done then (pl0, 4) else if pushC p s then (pl0, 3) else (refCut (pushO p s) w, 0)
end Go.Proofs.YtmamodnpghlgcaaDoor
/- Seen, the specification's Seen; the law's segments. -/

set_option linter.unusedSimpArgs false
set_option linter.unusedVariables false
set_option maxRecDepth 100000
set_option maxHeartbeats 4000000
namespace Go.Proofs.YtmamodnpghlgcaaDoor
open Go.RowKit
def seenF (l : List Seg) : Int := match l[0]? with | some s => s.num | none => 0
def seenN (l : List Seg) (arr : List Int) (t : Int) : Nat := match arr.findIdx? (fun x => decide (t < x)) with | some i => i | none => l.length
def seenO (l : List Seg) (arr : List Int) (t : Int) : Pl := ⟨seenF l, l.take (seenN l arr t), false⟩
theorem seenN_le {l : List Seg} {arr : List Int} (h : arr.length ≤ l.length) (t : Int) : seenN l arr t ≤ l.length := by
  unfold seenN
  cases hf : arr.findIdx? (fun x => decide (t < x)) with
  | none => exact Nat.le_refl _
  | some i => obtain ⟨h1, _⟩ := List.findIdx?_eq_some_iff_getElem.1 hf; simp only; omega
theorem seenN_eq {l : List Seg} {arr : List Int} {t : Int} {i : Nat} (h : arr.length = l.length) (hi : i ≤ l.length) (hb : ∀ j x, j < i → arr[j]? = some x → x ≤ t) (he : i = l.length ∨ ∃ x, arr[i]? = some x ∧ t < x) : seenN l arr t = i := by
  unfold seenN
  rcases he with rfl | ⟨x, hx, hlt⟩
  · have : arr.findIdx? (fun x => decide (t < x)) = none := by
      rw [List.findIdx?_eq_none_iff]
      intro x hx
      obtain ⟨j, hj⟩ := List.getElem?_of_mem hx
      have h1 := (List.getElem?_eq_some_iff.1 hj).1
      have := hb j x (by omega) hj
      simp; omega
    rw [this]
  · obtain ⟨hi2, hx2⟩ := List.getElem?_eq_some_iff.1 hx
    have : arr.findIdx? (fun x => decide (t < x)) = some i := by
      rw [List.findIdx?_eq_some_iff_getElem]
      refine ⟨hi2, by rw [hx2]; simpa using hlt, fun j hj => ?_⟩
      have := hb j arr[j] hj (List.getElem?_eq_getElem (by omega))
      simp; omega
    rw [this]
theorem seenO_ok {l : List Seg} {arr : List Int} (h : arr.length ≤ l.length) (t : Int) (hl : l.length ≤ 1000) (hs : ∀ s ∈ l, s.Ok) : (seenO l arr t).Ok := by
  have hf : -1152921504606846976 ≤ seenF l ∧ seenF l ≤ 1152921504606846976 := by
    unfold seenF
    cases hg : l[0]? with
    | none => simp
    | some s =>
      have := hs s (List.mem_of_getElem? hg)
      unfold Seg.Ok at this
      simp only; omega
  refine ⟨?_, hf.1, hf.2⟩
  simp only [seenO, List.length_take]
  omega
theorem seenO_len {l : List Seg} {arr : List Int} (h : arr.length ≤ l.length) (t : Int) : (seenO l arr t).l.length = seenN l arr t := by
  have := seenN_le h t
  simp only [seenO, List.length_take]; omega
theorem seen_fn (l : List Seg) (arr : List Int) (a a' : Option Addr) (c c' : Nat) (t w : Int) (F : Fact) (hF : F.to (rowF a (segsC l))) (hF' : F.to (rowF a' (ints arr))) (hc : l.length ≤ c) (hl : l.length ≤ 1000) (hla : arr.length ≤ l.length) (hs : ∀ s ∈ l, s.Ok) (hw : 0 ≤ w ∧ w ≤ 1000000) :
    Fn Tryd.prog 20 [.slice a l.length c, .slice a' arr.length c', .int .i64 t, .int .i64 w] F fun v G => isPl ((seenO l arr t).cut w) G v := by
  have hsl := seenO_len hla t
  have hsn := seenN_le hla t
  refine Fn.of_body Tryd.func20 rfl (Nat.le_of_ble_eq_true rfl) (Nat.le_of_ble_eq_true rfl) (by kernel_rfl) ?_
  refine SC.seqN [0, 1, 3, 6, 8] [.l 6, .l 8] fun K1 hK1 => SC.region ?_
  simp -implicitDefEqProofs only [push_cast, ↓reduceIte, Nat.reduceEqDiff, Nat.reduceAdd, Nat.reduceMul, Nat.reduceSub, Nat.reduceLeDiff, Nat.reduceLT, reduceCtorEq]
  refine hK1 _ ?_
  clear hK1
  refine SC.frzB (k := .l 6) rfl rfl fun bk r => ?_
  simp -implicitDefEqProofs only [push_cast, ↓reduceIte, Nat.reduceEqDiff, Nat.reduceAdd, Nat.reduceMul, Nat.reduceSub, Nat.reduceLeDiff, Nat.reduceLT, reduceCtorEq]
  obtain ⟨F1, hF1⟩ : ∃ F1, F1 = F.and (cellsF bk 0 [.int .i64 t]) := ⟨_, rfl⟩
  have hto : F1.to F := by rw [hF1]; exact Fact.to_left (Fact.to_refl _)
  have hbk : F1.to (cellsF bk 0 [.int .i64 t]) := by rw [hF1]; exact Fact.to_right (Fact.to_refl _)
  rw [← hF1]
  refine SC.seqN [0, 3, 8, 9] [.l 6, .l 8] fun K2 hK2 => SC.region ?_
  simp -implicitDefEqProofs only [push_cast, ↓reduceIte, Nat.reduceEqDiff, Nat.reduceAdd, Nat.reduceMul, Nat.reduceSub, Nat.reduceLeDiff, Nat.reduceLT, reduceCtorEq]
  refine callL_fn0 (indexInt_fn arr a' c' _ #[.pointer (some ⟨bk, 0, none⟩)] (fun x => decide (t < x)) _ (Fact.to_trans hto hF') (by omega) (by kernel_rfl) fun s hm => seen1_fn s t bk _ hbk) rfl (fun _ h => h) fun v G hv => ?_
  subst hv
  simp -implicitDefEqProofs only [push_cast, ↓reduceIte, Nat.reduceEqDiff, Nat.reduceAdd, Nat.reduceMul, Nat.reduceSub, Nat.reduceLeDiff, Nat.reduceLT, reduceCtorEq]
  refine hK2 _ ?_
  clear hK2
  refine SC.seqM [0, 3, 8, 9] [.l 6, .l 8] fun K3 hK3 hJ3 => ?_
  have key3 : K3 ⟨[(0, .v (.slice a l.length c)), (3, .v (.int .i64 w)), (8, .own (.l 8) 0), (9, .v (.int .i64 (seenN l arr t)))], [(.l 8, .box [.v (.int .i64 0), .v (.slice none 0 0), .v (.bool false)] 27)], F1⟩ := by
    refine hK3 _ ?_
    refine SC.seqN [0, 3, 8, 9, 10] [.l 6, .l 8, .l 10] fun K4 hK4 => SC.region ?_
    simp -implicitDefEqProofs only [push_cast, ↓reduceIte, Nat.reduceEqDiff, Nat.reduceAdd, Nat.reduceMul, Nat.reduceSub, Nat.reduceLeDiff, Nat.reduceLT, reduceCtorEq]
    refine hK4 _ ?_
    clear hK4
    refine SC.seqM [3, 8, 10] [.l 6, .l 8, .l 10] fun K5 hK5 hJ5 => ?_
    have key5 : ∀ (ao : Option Addr) (co : Nat) (F' : Fact), seenN l arr t ≤ co → F'.to (rowF ao (segsC (seenO l arr t).l)) → K5 ⟨[(3, .v (.int .i64 w)), (8, .own (.l 8) 0), (10, .own (.l 10) 0)], [(.l 8, .box [.v (.int .i64 0), .v (.slice none 0 0), .v (.bool false)] 27), (.l 10, .box [.v (.int .i64 (seenF l)), .v (.slice ao (seenN l arr t) co), .v (.bool false)] 27)], F'⟩ := by
      intro ao co F' hco hrow
      refine hK5 _ ?_
      refine SC.seqN [8] [.l 6, .l 8] fun K6 hK6 => SC.region ?_
      simp -implicitDefEqProofs only [push_cast, ↓reduceIte, Nat.reduceEqDiff, Nat.reduceAdd, Nat.reduceMul, Nat.reduceSub, Nat.reduceLeDiff, Nat.reduceLT, reduceCtorEq]
      refine callL_fn (cut_fn (seenO l arr t) (plV (seenF l) ao (seenN l arr t) co false) w F' ⟨ao, co, by rw [hsl]; rfl, by rw [hsl]; exact hco, hrow⟩ (seenO_ok hla t hl hs) hw) rfl (fun _ h => h) ?_
      rintro v G ⟨a2, c2, rfl, hc2, hG⟩
      simp -implicitDefEqProofs only [push_cast, ↓reduceIte, Nat.reduceEqDiff, Nat.reduceAdd, Nat.reduceMul, Nat.reduceSub, Nat.reduceLeDiff, Nat.reduceLT, reduceCtorEq, plV]
      refine hK6 _ ?_
      clear hK6
      refine SC.ret ?_
      simp -implicitDefEqProofs only [push_cast, ↓reduceIte, Nat.reduceEqDiff, Nat.reduceAdd, Nat.reduceMul, Nat.reduceSub, Nat.reduceLeDiff, Nat.reduceLT, reduceCtorEq, Tryd.f20]
      exact ⟨a2, c2, rfl, hc2, Fact.to_right hG⟩
    refine SC.seqN [0, 3, 8, 9, 10, 20] [.l 6, .l 8, .l 10] fun K7 hK7 => SC.region ?_
    simp -implicitDefEqProofs only [push_cast, ↓reduceIte, Nat.reduceEqDiff, Nat.reduceAdd, Nat.reduceMul, Nat.reduceSub, Nat.reduceLeDiff, Nat.reduceLT, reduceCtorEq]
    refine hK7 _ ?_
    clear hK7
    refine SC.cond ?_
    simp -implicitDefEqProofs only [push_cast, ↓reduceIte, Nat.reduceEqDiff, Nat.reduceAdd, Nat.reduceMul, Nat.reduceSub, Nat.reduceLeDiff, Nat.reduceLT, reduceCtorEq]
    refine ⟨fun h1 => ?_, fun h1 => ?_⟩
    · skip
      have h0 : 0 < l.length := by omega
      have hg : l[0]? = some l[0] := List.getElem?_eq_getElem h0
      have hsF : seenF l = l[0].num := by simp [seenF, hg]
      have hln : (l.take (seenN l arr t)).length = seenN l arr t := by rw [List.length_take]; omega
      have hrt : F1.to (rowF (slA a 0 c 20) (segsC (l.take (seenN l arr t)))) := by
        rw [← segsC_take]
        have := rowF_drop (c := c) (z := 20) (Fact.to_trans hto hF) 0 (by rw [segsC_length]; omega)
        rw [Nat.zero_mul, List.drop_zero] at this
        exact rowF_take this _
      refine SC.drawnP (.take 0 (.take 1 (.take 2 (.take 4 (.take 5 (.take 6 (.load 3 (.forkE 7 [23] (.take 8 (.fork 9 (.done) (.stop))) (.stop))))))))) (by kernel_rfl) (by kernel_rfl) (fun _ _ h => h) ?_
      simp -implicitDefEqProofs only [push_cast, ↓reduceIte, Nat.reduceEqDiff, Nat.reduceAdd, Nat.reduceMul, Nat.reduceSub, Nat.reduceLeDiff, Nat.reduceLT, reduceCtorEq]
      have hFa : F1.to (rowF a (segsC l)) := Fact.to_trans hto hF
      have hcl := clone_fn (l.take (seenN l arr t)) (slA a 0 c 20) c F1 hrt (by rw [hln]; omega) (by rw [hln]; omega)
      simp only [hln] at hcl
      repeat' (first
        | (with_reducible refine And.intro (rowF_some hFa (segsC_ne (by omega))) ?_)
        | (with_reducible refine loadSegC 0 hFa hg ?_ ?_ ?_
           · omega
           · omega
           simp -implicitDefEqProofs only [push_cast, ↓reduceIte, Nat.reduceEqDiff, Nat.reduceAdd, Nat.reduceMul, Nat.reduceSub, Nat.reduceLeDiff, Nat.reduceLT, reduceCtorEq, segC])
        | (with_reducible refine callL_fn hcl ?_ (fun _ h => h) ?_
           · rfl
           rintro v G ⟨ao, co, rfl, hco, hG⟩
           simp -implicitDefEqProofs only [push_cast, ↓reduceIte, Nat.reduceEqDiff, Nat.reduceAdd, Nat.reduceMul, Nat.reduceSub, Nat.reduceLeDiff, Nat.reduceLT, reduceCtorEq, Int.toNat_natCast])
        | (with_reducible refine And.intro (by omega) ?_)
        | (with_reducible refine And.intro ?_ ?_)
        | intro h
        | exact rfl)
      rw [← hsF]
      exact key5 _ _ _ (by assumption) (Fact.to_right (by assumption))
    · skip
      refine SC.skip ?_
      simp -implicitDefEqProofs only [push_cast, ↓reduceIte, Nat.reduceEqDiff, Nat.reduceAdd, Nat.reduceMul, Nat.reduceSub, Nat.reduceLeDiff, Nat.reduceLT, reduceCtorEq]
      have hn : l = [] := List.eq_nil_of_length_eq_zero (by omega)
      subst hn
      have h9 : seenN [] arr t = 0 := by simp at hsn; exact hsn
      have := key5 none 0 F1 (by omega) (by simp only [seenO, List.take_nil]; exact rowF_nil _ _)
      rw [h9] at this
      exact this
  refine SC.seqN [0, 3, 8, 9, 15] [.l 6, .l 8] fun K8 hK8 => SC.region ?_
  simp -implicitDefEqProofs only [push_cast, ↓reduceIte, Nat.reduceEqDiff, Nat.reduceAdd, Nat.reduceMul, Nat.reduceSub, Nat.reduceLeDiff, Nat.reduceLT, reduceCtorEq]
  refine hK8 _ ?_
  clear hK8
  refine SC.cond ?_
  simp -implicitDefEqProofs only [push_cast, ↓reduceIte, Nat.reduceEqDiff, Nat.reduceAdd, Nat.reduceMul, Nat.reduceSub, Nat.reduceLeDiff, Nat.reduceLT, reduceCtorEq]
  refine ⟨fun h2 => ?_, fun h2 => ?_⟩
  · skip
    refine SC.region ?_
    simp -implicitDefEqProofs only [push_cast, ↓reduceIte, Nat.reduceEqDiff, Nat.reduceAdd, Nat.reduceMul, Nat.reduceSub, Nat.reduceLeDiff, Nat.reduceLT, reduceCtorEq]
    have hi := idxI_lt arr fun x => decide (t < x)
    have h9 : seenN l arr t = l.length := by
      unfold seenN
      unfold idxI at h2
      cases hf : arr.findIdx? (fun x => decide (t < x)) with
      | none => rfl
      | some i => rw [hf] at h2; simp only at h2; omega
    rw [h9] at key3
    exact key3
  · skip
    refine SC.skip ?_
    simp -implicitDefEqProofs only [push_cast, ↓reduceIte, Nat.reduceEqDiff, Nat.reduceAdd, Nat.reduceMul, Nat.reduceSub, Nat.reduceLeDiff, Nat.reduceLT, reduceCtorEq]
    have h9 : ((seenN l arr t : Nat) : Int) = idxI arr fun x => decide (t < x) := by
      unfold seenN
      unfold idxI at h2 ⊢
      cases hf : arr.findIdx? (fun x => decide (t < x)) with
      | none => rw [hf] at h2; simp at h2
      | some i => rfl
    rw [h9] at key3
    exact key3
end Go.Proofs.YtmamodnpghlgcaaDoor
/- The specification's Seen; the law's segments. -/

set_option linter.unusedSimpArgs false
set_option linter.unusedVariables false
set_option maxRecDepth 100000
set_option maxHeartbeats 4000000
namespace Go.Proofs.YtmamodnpghlgcaaDoor
open Go.RowKit
def seenB (l : List Seg) (arr : List Int) (t : Int) (i : Nat) : Bool := match l[i]?, arr[i]? with | some _, some x => decide (x ≤ t) | _, _ => false
def segM (i : Int) : Seg := ⟨4 + i, 100 + 10 * i, 10, fun j => if j = 0 then i else 0, 0⟩
def segsM (n : Nat) : List Seg := (List.range n).map fun (i : Nat) => segM (i : Int)
theorem segsM_succ (n : Nat) : segsM (n + 1) = segsM n ++ [segM (n : Int)] := by simp [segsM, List.range_succ]
theorem segsM_length (n : Nat) : (segsM n).length = n := by simp [segsM]
theorem segments_fn (n : Nat) (hn : n ≤ 100) (F : Fact) : Fn Tryd.prog 24 [.int .i64 n] F fun v G => ∃ a c, v = .slice a n c ∧ n ≤ c ∧ G.to (rowF a (segsC (segsM n))) := by
  refine Fn.of_body Tryd.func24 rfl (Nat.le_of_ble_eq_true rfl) (Nat.le_of_ble_eq_true rfl) (by kernel_rfl) ?_
  refine SC.seqN [0] [.l 19, .l 20, .l 900] fun K1 hK1 => SC.region ?_
  simp -implicitDefEqProofs only [push_cast, ↓reduceIte, Nat.reduceEqDiff, Nat.reduceAdd, Nat.reduceMul, Nat.reduceSub, Nat.reduceLeDiff, Nat.reduceLT, reduceCtorEq]
  refine hK1 _ ?_
  clear hK1
  refine SC.seqN [0, 3] [.l 19, .l 20, .l 900] fun K2 hK2 => SC.region ?_
  simp -implicitDefEqProofs only [push_cast, ↓reduceIte, Nat.reduceEqDiff, Nat.reduceAdd, Nat.reduceMul, Nat.reduceSub, Nat.reduceLeDiff, Nat.reduceLT, reduceCtorEq]
  refine hK2 _ ?_
  clear hK2
  refine SC.adT (i := 3) (q := 900) (et := 40) (sz := 20) rfl (by simp -implicitDefEqProofs only [push_cast, ↓reduceIte, Nat.reduceEqDiff, Nat.reduceAdd, Nat.reduceMul, Nat.reduceSub, Nat.reduceLeDiff, Nat.reduceLT, reduceCtorEq]) (by simp -implicitDefEqProofs only [push_cast, ↓reduceIte, Nat.reduceEqDiff, Nat.reduceAdd, Nat.reduceMul, Nat.reduceSub, Nat.reduceLeDiff, Nat.reduceLT, reduceCtorEq]) ?_
  simp -implicitDefEqProofs only [push_cast, ↓reduceIte, Nat.reduceEqDiff, Nat.reduceAdd, Nat.reduceMul, Nat.reduceSub, Nat.reduceLeDiff, Nat.reduceLT, reduceCtorEq]
  refine SC.seqN [3] [.l 19, .l 20, .l 900] fun K3 hK3 => ?_
  refine SC.seqN [3, 5, 6] [.l 19, .l 20, .l 900] fun K4 hK4 => SC.region ?_
  simp -implicitDefEqProofs only [push_cast, ↓reduceIte, Nat.reduceEqDiff, Nat.reduceAdd, Nat.reduceMul, Nat.reduceSub, Nat.reduceLeDiff, Nat.reduceLT, reduceCtorEq]
  refine hK4 _ ?_
  clear hK4
  refine SC.block ?_
  refine SC.loop (fun i : Nat => ⟨[(3, .row (.l 900)), (5, .v (.int .i64 n)), (6, .v (.int .i64 i))], [(.l 900, .row 40 20 i (segsC (segsM i)))], F⟩) (fun i => i ≤ n) (fun i => n - i) 0 (Le.refl _) (Nat.zero_le _) fun i hx => ?_
  refine SC.seqN [3, 5, 6, 7] [.l 19, .l 20, .l 900] fun K5 hK5 => SC.region ?_
  simp -implicitDefEqProofs only [push_cast, ↓reduceIte, Nat.reduceEqDiff, Nat.reduceAdd, Nat.reduceMul, Nat.reduceSub, Nat.reduceLeDiff, Nat.reduceLT, reduceCtorEq]
  refine hK5 _ ?_
  clear hK5
  refine SC.seqN [3, 5, 6] [.l 19, .l 20, .l 900] fun K6 hK6 => ?_
  refine SC.cond ?_
  simp -implicitDefEqProofs only [push_cast, ↓reduceIte, Nat.reduceEqDiff, Nat.reduceAdd, Nat.reduceMul, Nat.reduceSub, Nat.reduceLeDiff, Nat.reduceLT, reduceCtorEq]
  refine ⟨fun h1 => ?_, fun h1 => ?_⟩
  · skip
    refine SC.skip ?_
    simp -implicitDefEqProofs only [push_cast, ↓reduceIte, Nat.reduceEqDiff, Nat.reduceAdd, Nat.reduceMul, Nat.reduceSub, Nat.reduceLeDiff, Nat.reduceLT, reduceCtorEq]
    refine hK6 _ ?_
    clear hK6
    refine SC.seqN [3, 5, 6] [.l 19, .l 20, .l 900] fun K7 hK7 => ?_
    refine SC.block ?_
    refine SC.seqN [3, 4, 5, 6] [.l 19, .l 20, .l 900] fun K8 hK8 => SC.region ?_
    simp -implicitDefEqProofs only [push_cast, ↓reduceIte, Nat.reduceEqDiff, Nat.reduceAdd, Nat.reduceMul, Nat.reduceSub, Nat.reduceLeDiff, Nat.reduceLT, reduceCtorEq]
    refine hK8 _ ?_
    clear hK8
    refine SC.region ?_
    simp -implicitDefEqProofs only [push_cast, ↓reduceIte, Nat.reduceEqDiff, Nat.reduceAdd, Nat.reduceMul, Nat.reduceSub, Nat.reduceLeDiff, Nat.reduceLT, reduceCtorEq]
    suffices hk : K7 ⟨[(3, .row (.l 20)), (5, .v (.int .i64 n)), (6, .v (.int .i64 i))], [(.l 19, .row 40 20 1 (segC (segM i))), (.l 20, .row 40 20 (i + 1) (segsC (segsM i) ++ segC (segM i)))], F⟩ by
      repeat' (first
        | exact hk
        | exact segC_one (segM i)
        | (with_reducible refine And.intro (by omega) ?_)
        | (with_reducible refine And.intro ?_ ?_)
        | intro h
        | exact rfl)
      all_goals (first | omega | (rw [mxl]; omega))
    refine hK7 _ ?_
    clear hK7
    refine SC.of_le ?_ (Le.sw _ [(20, 900)])
    simp -implicitDefEqProofs only [push_cast, ↓reduceIte, Nat.reduceEqDiff, Nat.reduceAdd, Nat.reduceMul, Nat.reduceSub, Nat.reduceLeDiff, Nat.reduceLT, reduceCtorEq]
    refine SC.region ?_
    simp -implicitDefEqProofs only [push_cast, ↓reduceIte, Nat.reduceEqDiff, Nat.reduceAdd, Nat.reduceMul, Nat.reduceSub, Nat.reduceLeDiff, Nat.reduceLT, reduceCtorEq]
    refine ⟨by omega, i + 1, by omega, by omega, Le.trans (Le.norm _ [3, 5, 6] [.l 900]) ?_⟩
    simp -implicitDefEqProofs only [push_cast, ↓reduceIte, Nat.reduceEqDiff, Nat.reduceAdd, Nat.reduceMul, Nat.reduceSub, Nat.reduceLeDiff, Nat.reduceLT, reduceCtorEq]
    rw [show segsC (segsM (i + 1)) = segsC (segsM i) ++ segC (segM i) by rw [segsM_succ, segsC_snoc]]
    exact Le.refl _
  · skip
    refine SC.exit ?_
    simp -implicitDefEqProofs only [push_cast, ↓reduceIte, Nat.reduceEqDiff, Nat.reduceAdd, Nat.reduceMul, Nat.reduceSub, Nat.reduceLeDiff, Nat.reduceLT, reduceCtorEq]
    refine hK3 _ ?_
    clear hK3
    refine SC.seqN [2] [.l 19, .l 20, .l 900] fun K9 hK9 => SC.region ?_
    simp -implicitDefEqProofs only [push_cast, ↓reduceIte, Nat.reduceEqDiff, Nat.reduceAdd, Nat.reduceMul, Nat.reduceSub, Nat.reduceLeDiff, Nat.reduceLT, reduceCtorEq]
    refine hK9 _ ?_
    clear hK9
    refine SC.frzRow (k := .l 900) rfl (by rw [segsC_length, segsM_length]) fun ao b co hco => ?_
    simp -implicitDefEqProofs only [push_cast, ↓reduceIte, Nat.reduceEqDiff, Nat.reduceAdd, Nat.reduceMul, Nat.reduceSub, Nat.reduceLeDiff, Nat.reduceLT, reduceCtorEq]
    refine SC.ret ?_
    simp -implicitDefEqProofs only [push_cast, ↓reduceIte, Nat.reduceEqDiff, Nat.reduceAdd, Nat.reduceMul, Nat.reduceSub, Nat.reduceLeDiff, Nat.reduceLT, reduceCtorEq, Tryd.f24]
    have hin : i = n := by omega
    subst hin
    exact ⟨ao, co, rfl, hco, Fact.to_right (Fact.to_refl _)⟩
end Go.Proofs.YtmamodnpghlgcaaDoor
