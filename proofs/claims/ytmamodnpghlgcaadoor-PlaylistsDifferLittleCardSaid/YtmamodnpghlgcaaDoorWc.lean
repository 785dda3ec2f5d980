/- Own texts that this proof leans on, part 3: Lw, Lx, Ly, Lz, Ma, Mb, Mc, Md, Me, Mf, Sx20, Sx21, Sx22, Sx23, Sx24, Shf, Mg, Mh, Mi, Mj, Mk, Ml, Mm, Mn. -/
import Derived.Test.YtmamodnpghlgcaaDoorWb
import Derived.Lib.ItoaNum
import Derived.Recover
import Derived.RangeFuncKeeps
import Derived.RangeFuncLeaves
import Derived.Shelf.Strings.Builder1
import Derived.Shelf.Strings.Builder2
import Derived.Shelf.Strings.OnBuilder
import Derived.Shelf.Small.Strs
import Derived.Shelf.Small.Wraps
import Derived.Shelf.Utf8.RuneCount
import Derived.Shelf.Strconv.Atoi
import Derived.Shelf.Strconv.Itoa0
import Derived.Shelf.Strconv.Itoa1
import Derived.Shelf.LaysM
import Derived.Shelf.Strconv.Itoa2
import Derived.Shelf.Strconv.Itoa3
import Derived.Shelf.Strconv.AtoiErrFast
import Derived.Shelf.Strconv.ParseIntEmpty
import Derived.Shelf.Strconv.AtoiFail
import Derived.Shelf.Strconv.Clone
import Derived.Shelf.Strconv.SyntaxError
import Derived.Shelf.LaysC
import Derived.Shelf.Strconv.ToError
import Derived.Shelf.Strconv.Lower
import Derived.Shelf.Strconv.ParseUint10
import Derived.Shelf.Strconv.ParseUint10Empty
import Derived.Shelf.Strconv.ParseUint10Any
import Derived.Shelf.Strconv.ParseInt10
import Derived.Shelf.Strconv.AtoiLong
import Derived.Shelf.Strconv.AtoiInnerAll
import Derived.Shelf.Strconv.RangeError
import Derived.Shelf.Strconv.ToErrorRange
import Derived.Shelf.Strconv.AtoiAll
import Derived.Shelf.Strconv.ErrVarAll
import Derived.Shelf.Strings.Search1
import Derived.Shelf.Strings.Search2
import Derived.Shelf.Strings.Search3
import Derived.Shelf.Strings.Count
import Derived.Shelf.Strings.Shaped
import Derived.Shelf.Strings.Prefix
import Derived.Shelf.Strings.Split
import Derived.Shelf.Strings.SplitShaped
import Derived.Shelf.Unicode.Decode
import Derived.Shelf.Strings.RuneCount
import Derived.Shelf.Strings.Explode
import Derived.Shelf.Unicode.DecodeSlow
import Derived.Shelf.Unicode.DecodeAny
import Derived.Test.YtmamodnpghlgcaaDoorProg
import Derived.Lib.AppendIntMem
import Derived.Lib.SplitLaws
import Derived.Lib.AtoiAllCases
import Derived.Lib.AtoiErrMem
/- Lists of lists of numbers in memory; SameTimes. -/

set_option linter.unusedSimpArgs false
set_option linter.unusedVariables false
set_option maxRecDepth 100000
set_option maxHeartbeats 4000000
namespace Go.Proofs.YtmamodnpghlgcaaDoor
open Go.RowKit
/-- The slices of a list of lists. -/
def slcs (aa : Nat → Option Addr) (cc : Nat → Nat) (ls : List (List Int)) : List Value := ls.mapIdx fun i l => .slice (aa i) l.length (cc i)
theorem slcs_length (aa : Nat → Option Addr) (cc : Nat → Nat) (ls : List (List Int)) : (slcs aa cc ls).length = ls.length := by simp [slcs]
theorem slcs_get {aa : Nat → Option Addr} {cc : Nat → Nat} {ls : List (List Int)} {i : Nat} {l : List Int} (h : ls[i]? = some l) : (slcs aa cc ls)[i]? = some (.slice (aa i) l.length (cc i)) := by simp [slcs, h]
theorem slcs_ne {aa : Nat → Option Addr} {cc : Nat → Nat} {ls : List (List Int)} (h : 0 < ls.length) : slcs aa cc ls ≠ [] := by intro hn; have := slcs_length aa cc ls; rw [hn] at this; simp at this; omega
def rowsOk (F : Fact) (aa : Nat → Option Addr) (cc : Nat → Nat) (ls : List (List Int)) : Prop := ∀ i l, ls[i]? = some l → l.length ≤ cc i ∧ F.to (rowF (aa i) (ints l))
def isIntss (ls : List (List Int)) (F : Fact) (v : Value) : Prop := ∃ a c aa cc, v = .slice a ls.length c ∧ ls.length ≤ c ∧ F.to (rowF a (slcs aa cc ls)) ∧ rowsOk F aa cc ls
theorem rowsOk.to {F G : Fact} {aa : Nat → Option Addr} {cc : Nat → Nat} {ls : List (List Int)} (h : rowsOk F aa cc ls) (hg : G.to F) : rowsOk G aa cc ls := fun i l hl => ⟨(h i l hl).1, Fact.to_trans hg (h i l hl).2⟩
theorem isIntss.to {ls : List (List Int)} {F G : Fact} {v : Value} (h : isIntss ls F v) (hg : G.to F) : isIntss ls G v := by
  obtain ⟨a, c, aa, cc, h1, h2, h3, h4⟩ := h
  exact ⟨a, c, aa, cc, h1, h2, Fact.to_trans hg h3, h4.to hg⟩
theorem loadRow {n : Nat} {F : Fact} {a : Option Addr} {aa : Nat → Option Addr} {cc : Nat → Nat} {ls : List (List Int)} {k : SV → Prop} {j : Int} (i : Nat) {l : List Int} (h : F.to (rowF a (slcs aa cc ls))) (hi : ls[i]? = some l) (hj : j = (i : Int)) (hk : k (.v (.slice (aa i) l.length (cc i)))) : loadF (some (false, n)) F ((a.getD default).add (j.toNat * 1)) k := by
  subst hj
  rw [Int.toNat_natCast, Nat.mul_one]
  exact loadF_one _ h (slcs_get hi) hk
def sameRow (l m : List Int) : Bool := decide (l = m)
def timesEq (x y : List (List Int)) : Bool := decide (x = y)
theorem list_ext_pre {α : Type} {l m : List α} (hl : l.length = m.length) (h : ∀ (j : Nat) (x y : α), l[j]? = some x → m[j]? = some y → x = y) : l = m := by
  apply List.ext_getElem hl
  intro i h1 h2
  exact h i _ _ (List.getElem?_eq_getElem h1) (List.getElem?_eq_getElem h2)
theorem sameTimes_fn (x y : List (List Int)) (v v' : Value) (F : Fact) (hx : isIntss x F v) (hy : isIntss y F v') (hlx : x.length ≤ 100000) (hly : y.length ≤ 100000) (hrx : ∀ l ∈ x, l.length ≤ 100000) (hry : ∀ l ∈ y, l.length ≤ 100000) : Fn Tryd.prog 26 [v, v'] F fun v _ => v = .bool (timesEq x y) := by
  obtain ⟨a, c, aa, cc, rfl, hc, hF, hR⟩ := hx
  obtain ⟨a', c', aa', cc', rfl, hc', hF', hR'⟩ := hy
  refine Fn.of_body Tryd.func26 rfl (Nat.le_of_ble_eq_true rfl) (Nat.le_of_ble_eq_true rfl) (by kernel_rfl) ?_
  refine SC.seqN [0, 1] [] fun K1 hK1 => SC.region ?_
  simp -implicitDefEqProofs only [push_cast, ↓reduceIte, Nat.reduceEqDiff, Nat.reduceAdd, Nat.reduceMul, Nat.reduceSub, Nat.reduceLeDiff, Nat.reduceLT, reduceCtorEq]
  refine hK1 _ ?_
  clear hK1
  refine SC.seqN [0, 1] [] fun K2 hK2 => ?_
  refine SC.seqN [0, 1, 11] [] fun K3 hK3 => SC.region ?_
  simp -implicitDefEqProofs only [push_cast, ↓reduceIte, Nat.reduceEqDiff, Nat.reduceAdd, Nat.reduceMul, Nat.reduceSub, Nat.reduceLeDiff, Nat.reduceLT, reduceCtorEq]
  refine hK3 _ ?_
  clear hK3
  refine SC.cond ?_
  simp -implicitDefEqProofs only [push_cast, ↓reduceIte, Nat.reduceEqDiff, Nat.reduceAdd, Nat.reduceMul, Nat.reduceSub, Nat.reduceLeDiff, Nat.reduceLT, reduceCtorEq]
  refine ⟨fun h1 => ?_, fun h1 => ?_⟩
  · skip
    refine SC.seqN [4] [] fun K4 hK4 => SC.region ?_
    simp -implicitDefEqProofs only [push_cast, ↓reduceIte, Nat.reduceEqDiff, Nat.reduceAdd, Nat.reduceMul, Nat.reduceSub, Nat.reduceLeDiff, Nat.reduceLT, reduceCtorEq]
    refine hK4 _ ?_
    clear hK4
    refine SC.ret ?_
    simp -implicitDefEqProofs only [push_cast, ↓reduceIte, Nat.reduceEqDiff, Nat.reduceAdd, Nat.reduceMul, Nat.reduceSub, Nat.reduceLeDiff, Nat.reduceLT, reduceCtorEq, Tryd.f26]
    have : x ≠ y := by rintro rfl; exact h1 rfl
    simp [timesEq, this]
  · skip
    have hlen : x.length = y.length := by omega
    refine SC.skip ?_
    simp -implicitDefEqProofs only [push_cast, ↓reduceIte, Nat.reduceEqDiff, Nat.reduceAdd, Nat.reduceMul, Nat.reduceSub, Nat.reduceLeDiff, Nat.reduceLT, reduceCtorEq]
    refine hK2 _ ?_
    clear hK2
    refine SC.seqN [] [] fun K5 hK5 => ?_
    refine SC.seqN [0, 1, 5] [] fun K6 hK6 => SC.region ?_
    simp -implicitDefEqProofs only [push_cast, ↓reduceIte, Nat.reduceEqDiff, Nat.reduceAdd, Nat.reduceMul, Nat.reduceSub, Nat.reduceLeDiff, Nat.reduceLT, reduceCtorEq]
    refine hK6 _ ?_
    clear hK6
    refine SC.block ?_
    refine SC.loop (fun i : Nat => ⟨[(0, .v (.slice a x.length c)), (1, .v (.slice a' y.length c')), (5, .v (.int .i64 i))], [], F⟩) (fun i => i ≤ x.length ∧ ∀ j l m, j < i → x[j]? = some l → y[j]? = some m → l = m) (fun i => x.length - i) 0 (Le.refl _) ⟨Nat.zero_le _, fun j l m hj => absurd hj (Nat.not_lt_zero j)⟩ fun i hi => ?_
    refine SC.seqN [0, 1, 5] [] fun K7 hK7 => ?_
    refine SC.seqN [0, 1, 5, 15] [] fun K8 hK8 => SC.region ?_
    simp -implicitDefEqProofs only [push_cast, ↓reduceIte, Nat.reduceEqDiff, Nat.reduceAdd, Nat.reduceMul, Nat.reduceSub, Nat.reduceLeDiff, Nat.reduceLT, reduceCtorEq]
    refine hK8 _ ?_
    clear hK8
    refine SC.cond ?_
    simp -implicitDefEqProofs only [push_cast, ↓reduceIte, Nat.reduceEqDiff, Nat.reduceAdd, Nat.reduceMul, Nat.reduceSub, Nat.reduceLeDiff, Nat.reduceLT, reduceCtorEq]
    refine ⟨fun h2 => ?_, fun h2 => ?_⟩
    · skip
      have hil : i < x.length := by omega
      have hgx : x[i]? = some x[i] := List.getElem?_eq_getElem hil
      have hgy : y[i]? = some (y[i]'(by omega)) := List.getElem?_eq_getElem (by omega)
      obtain ⟨p, hp⟩ : ∃ p, p = x[i] := ⟨_, rfl⟩
      obtain ⟨q, hq⟩ : ∃ q, q = y[i]'(by omega) := ⟨_, rfl⟩
      rw [← hp] at hgx
      rw [← hq] at hgy
      have hrp := hR i p hgx
      have hrq := hR' i q hgy
      have hlp := hrx p (List.mem_of_getElem? hgx)
      have hlq := hry q (List.mem_of_getElem? hgy)
      refine SC.skip ?_
      simp -implicitDefEqProofs only [push_cast, ↓reduceIte, Nat.reduceEqDiff, Nat.reduceAdd, Nat.reduceMul, Nat.reduceSub, Nat.reduceLeDiff, Nat.reduceLT, reduceCtorEq]
      refine hK7 _ ?_
      clear hK7
      refine SC.seqN [0, 1, 5] [] fun K9 hK9 => ?_
      refine SC.block ?_
      refine SC.seqN [0, 1, 5] [] fun K10 hK10 => ?_
      refine SC.seqN [0, 1, 5, 28] [] fun K11 hK11 => SC.drawnP (.take 0 (.take 1 (.take 2 (.take 5 (.take 6 (.take 7 (.load 3 (.take 4 (.load 8 (.take 9 (.take 10 (.done)))))))))))) (by kernel_rfl) (by kernel_rfl) (fun _ _ h => h) ?_
      simp -implicitDefEqProofs only [push_cast, ↓reduceIte, Nat.reduceEqDiff, Nat.reduceAdd, Nat.reduceMul, Nat.reduceSub, Nat.reduceLeDiff, Nat.reduceLT, reduceCtorEq]
      suffices key11 : ∀ b, b = decide (p.length ≠ q.length) → K11 ⟨[(0, .v (.slice a x.length c)), (1, .v (.slice a' y.length c')), (5, .v (.int .i64 i)), (28, .v (.bool b))], [], F⟩ by
        clear hK5 hK9 hK10 hK11
        repeat' (first
          | (with_reducible refine And.intro (rowF_some hF (slcs_ne (by omega))) ?_)
          | (with_reducible refine And.intro (rowF_some hF' (slcs_ne (by omega))) ?_)
          | (with_reducible refine loadRow i hF hgx ?_ ?_
             · rfl
             simp -implicitDefEqProofs only [push_cast, ↓reduceIte, Nat.reduceEqDiff, Nat.reduceAdd, Nat.reduceMul, Nat.reduceSub, Nat.reduceLeDiff, Nat.reduceLT, reduceCtorEq])
          | (with_reducible refine loadRow i hF' hgy ?_ ?_
             · rfl
             simp -implicitDefEqProofs only [push_cast, ↓reduceIte, Nat.reduceEqDiff, Nat.reduceAdd, Nat.reduceMul, Nat.reduceSub, Nat.reduceLeDiff, Nat.reduceLT, reduceCtorEq])
          | (with_reducible refine And.intro (by omega) ?_)
          | (with_reducible refine And.intro ?_ ?_)
          | intro h
          | exact rfl)
        all_goals (refine key11 _ ?_; clear key11; rw [Bool.eq_iff_iff]; simp only [decide_eq_true_eq]; omega)
      intro b hb
      subst hb
      refine hK11 _ ?_
      clear hK11
      refine SC.cond ?_
      simp -implicitDefEqProofs only [push_cast, ↓reduceIte, Nat.reduceEqDiff, Nat.reduceAdd, Nat.reduceMul, Nat.reduceSub, Nat.reduceLeDiff, Nat.reduceLT, reduceCtorEq]
      refine ⟨fun h3 => ?_, fun h3 => ?_⟩
      · skip
        refine SC.seqN [4] [] fun K12 hK12 => SC.region ?_
        simp -implicitDefEqProofs only [push_cast, ↓reduceIte, Nat.reduceEqDiff, Nat.reduceAdd, Nat.reduceMul, Nat.reduceSub, Nat.reduceLeDiff, Nat.reduceLT, reduceCtorEq]
        refine hK12 _ ?_
        clear hK12
        refine SC.ret ?_
        simp -implicitDefEqProofs only [push_cast, ↓reduceIte, Nat.reduceEqDiff, Nat.reduceAdd, Nat.reduceMul, Nat.reduceSub, Nat.reduceLeDiff, Nat.reduceLT, reduceCtorEq, Tryd.f26]
        have : x ≠ y := by rintro rfl; rw [hgx] at hgy; exact h3 (by rw [Option.some.inj hgy])
        simp [timesEq, this]
      · skip
        have hpq : p.length = q.length := by omega
        refine SC.skip ?_
        simp -implicitDefEqProofs only [push_cast, ↓reduceIte, Nat.reduceEqDiff, Nat.reduceAdd, Nat.reduceMul, Nat.reduceSub, Nat.reduceLeDiff, Nat.reduceLT, reduceCtorEq]
        refine hK10 _ ?_
        clear hK10
        refine SC.seqN [0, 1, 5, 6] [] fun K13 hK13 => SC.region ?_
        simp -implicitDefEqProofs only [push_cast, ↓reduceIte, Nat.reduceEqDiff, Nat.reduceAdd, Nat.reduceMul, Nat.reduceSub, Nat.reduceLeDiff, Nat.reduceLT, reduceCtorEq]
        refine hK13 _ ?_
        clear hK13
        refine SC.block ?_
        refine SC.loop (fun j : Nat => ⟨[(0, .v (.slice a x.length c)), (1, .v (.slice a' y.length c')), (5, .v (.int .i64 i)), (6, .v (.int .i64 j))], [], F⟩) (fun j => j ≤ p.length ∧ ∀ k u v, k < j → p[k]? = some u → q[k]? = some v → u = v) (fun j => p.length - j) 0 (Le.refl _) ⟨Nat.zero_le _, fun j l m hj => absurd hj (Nat.not_lt_zero j)⟩ fun j hj => ?_
        refine SC.seqN [0, 1, 5, 6] [] fun K14 hK14 => ?_
        refine SC.seqN [0, 1, 5, 6, 35] [] fun K15 hK15 => SC.region ?_
        simp -implicitDefEqProofs only [push_cast, ↓reduceIte, Nat.reduceEqDiff, Nat.reduceAdd, Nat.reduceMul, Nat.reduceSub, Nat.reduceLeDiff, Nat.reduceLT, reduceCtorEq]
        refine ⟨by omega, rowF_some hF (slcs_ne (by omega)), loadRow i hF hgx rfl ?_⟩
        simp -implicitDefEqProofs only [push_cast, ↓reduceIte, Nat.reduceEqDiff, Nat.reduceAdd, Nat.reduceMul, Nat.reduceSub, Nat.reduceLeDiff, Nat.reduceLT, reduceCtorEq]
        refine hK15 _ ?_
        clear hK15
        refine SC.cond ?_
        simp -implicitDefEqProofs only [push_cast, ↓reduceIte, Nat.reduceEqDiff, Nat.reduceAdd, Nat.reduceMul, Nat.reduceSub, Nat.reduceLeDiff, Nat.reduceLT, reduceCtorEq]
        refine ⟨fun h4 => ?_, fun h4 => ?_⟩
        · skip
          have hjl : j < p.length := by omega
          have hjx : p[j]? = some p[j] := List.getElem?_eq_getElem hjl
          have hjy : q[j]? = some (q[j]'(by omega)) := List.getElem?_eq_getElem (by omega)
          refine SC.skip ?_
          simp -implicitDefEqProofs only [push_cast, ↓reduceIte, Nat.reduceEqDiff, Nat.reduceAdd, Nat.reduceMul, Nat.reduceSub, Nat.reduceLeDiff, Nat.reduceLT, reduceCtorEq]
          refine hK14 _ ?_
          clear hK14
          refine SC.seqN [0, 1, 5, 6] [] fun K16 hK16 => ?_
          refine SC.block ?_
          refine SC.seqN [0, 1, 5, 6, 52] [] fun K17 hK17 => SC.drawnP (.take 0 (.take 1 (.take 2 (.take 4 (.take 7 (.take 8 (.take 9 (.take 11 (.load 3 (.take 5 (.load 6 (.load 10 (.take 12 (.load 13 (.take 14 (.done)))))))))))))))) (by kernel_rfl) (by kernel_rfl) (fun _ _ h => h) ?_
          simp -implicitDefEqProofs only [push_cast, ↓reduceIte, Nat.reduceEqDiff, Nat.reduceAdd, Nat.reduceMul, Nat.reduceSub, Nat.reduceLeDiff, Nat.reduceLT, reduceCtorEq]
          suffices key17 : ∀ b, b = decide (p[j] ≠ q[j]'(by omega)) → K17 ⟨[(0, .v (.slice a x.length c)), (1, .v (.slice a' y.length c')), (5, .v (.int .i64 i)), (6, .v (.int .i64 j)), (52, .v (.bool b))], [], F⟩ by
            clear hK5 hK9 hK16 hK17
            repeat' (first
              | (with_reducible refine And.intro (rowF_some hF (slcs_ne (by omega))) ?_)
              | (with_reducible refine And.intro (rowF_some hF' (slcs_ne (by omega))) ?_)
              | (with_reducible refine And.intro (rowF_some hrp.2 (ints_ne (by omega))) ?_)
              | (with_reducible refine And.intro (rowF_some hrq.2 (ints_ne (by omega))) ?_)
              | (with_reducible refine loadRow i hF hgx ?_ ?_
                 · rfl
                 simp -implicitDefEqProofs only [push_cast, ↓reduceIte, Nat.reduceEqDiff, Nat.reduceAdd, Nat.reduceMul, Nat.reduceSub, Nat.reduceLeDiff, Nat.reduceLT, reduceCtorEq])
              | (with_reducible refine loadRow i hF' hgy ?_ ?_
                 · rfl
                 simp -implicitDefEqProofs only [push_cast, ↓reduceIte, Nat.reduceEqDiff, Nat.reduceAdd, Nat.reduceMul, Nat.reduceSub, Nat.reduceLeDiff, Nat.reduceLT, reduceCtorEq])
              | (with_reducible refine loadInt j hrp.2 hjx ?_ ?_
                 · rfl
                 simp -implicitDefEqProofs only [push_cast, ↓reduceIte, Nat.reduceEqDiff, Nat.reduceAdd, Nat.reduceMul, Nat.reduceSub, Nat.reduceLeDiff, Nat.reduceLT, reduceCtorEq])
              | (with_reducible refine loadInt j hrq.2 hjy ?_ ?_
                 · rfl
                 simp -implicitDefEqProofs only [push_cast, ↓reduceIte, Nat.reduceEqDiff, Nat.reduceAdd, Nat.reduceMul, Nat.reduceSub, Nat.reduceLeDiff, Nat.reduceLT, reduceCtorEq])
              | (with_reducible refine And.intro (by omega) ?_)
              | (with_reducible refine And.intro ?_ ?_)
              | intro h
              | exact rfl)
            all_goals exact key17 _ rfl
          intro b hb
          subst hb
          refine hK17 _ ?_
          clear hK17
          refine SC.cond ?_
          simp -implicitDefEqProofs only [push_cast, ↓reduceIte, Nat.reduceEqDiff, Nat.reduceAdd, Nat.reduceMul, Nat.reduceSub, Nat.reduceLeDiff, Nat.reduceLT, reduceCtorEq]
          refine ⟨fun h5 => ?_, fun h5 => ?_⟩
          · skip
            refine SC.seqN [4] [] fun K18 hK18 => SC.region ?_
            simp -implicitDefEqProofs only [push_cast, ↓reduceIte, Nat.reduceEqDiff, Nat.reduceAdd, Nat.reduceMul, Nat.reduceSub, Nat.reduceLeDiff, Nat.reduceLT, reduceCtorEq]
            refine hK18 _ ?_
            clear hK18
            refine SC.ret ?_
            simp -implicitDefEqProofs only [push_cast, ↓reduceIte, Nat.reduceEqDiff, Nat.reduceAdd, Nat.reduceMul, Nat.reduceSub, Nat.reduceLeDiff, Nat.reduceLT, reduceCtorEq, Tryd.f26]
            have : x ≠ y := by
              rintro rfl
              rw [hgx] at hgy
              obtain rfl := Option.some.inj hgy
              exact h5 rfl
            simp [timesEq, this]
          · skip
            refine SC.skip ?_
            simp -implicitDefEqProofs only [push_cast, ↓reduceIte, Nat.reduceEqDiff, Nat.reduceAdd, Nat.reduceMul, Nat.reduceSub, Nat.reduceLeDiff, Nat.reduceLT, reduceCtorEq]
            refine hK16 _ ?_
            clear hK16
            refine SC.region ?_
            simp -implicitDefEqProofs only [push_cast, ↓reduceIte, Nat.reduceEqDiff, Nat.reduceAdd, Nat.reduceMul, Nat.reduceSub, Nat.reduceLeDiff, Nat.reduceLT, reduceCtorEq]
            refine ⟨by omega, j + 1, ⟨by omega, fun k u v hk hu hv => ?_⟩, by omega, Le.trans (Le.norm _ [0, 1, 5, 6] []) ?_⟩
            · rcases Nat.lt_succ_iff_lt_or_eq.1 hk with hk | rfl
              · exact hj.2 k u v hk hu hv
              · rw [hjx] at hu
                rw [hjy] at hv
                rw [← Option.some.inj hu, ← Option.some.inj hv]
                exact h5
            · simp -implicitDefEqProofs only [push_cast, ↓reduceIte, Nat.reduceEqDiff, Nat.reduceAdd, Nat.reduceMul, Nat.reduceSub, Nat.reduceLeDiff, Nat.reduceLT, reduceCtorEq]
              exact Le.refl _
        · skip
          have hpe : p = q := list_ext_pre hpq fun k u v hu hv => hj.2 k u v (by have := (List.getElem?_eq_some_iff.1 hu).1; omega) hu hv
          refine SC.exit ?_
          simp -implicitDefEqProofs only [push_cast, ↓reduceIte, Nat.reduceEqDiff, Nat.reduceAdd, Nat.reduceMul, Nat.reduceSub, Nat.reduceLeDiff, Nat.reduceLT, reduceCtorEq]
          refine hK9 _ ?_
          clear hK9
          refine SC.region ?_
          simp -implicitDefEqProofs only [push_cast, ↓reduceIte, Nat.reduceEqDiff, Nat.reduceAdd, Nat.reduceMul, Nat.reduceSub, Nat.reduceLeDiff, Nat.reduceLT, reduceCtorEq]
          refine ⟨by omega, i + 1, ⟨by omega, fun k l m hk hl hm => ?_⟩, by omega, Le.trans (Le.norm _ [0, 1, 5] []) ?_⟩
          · rcases Nat.lt_succ_iff_lt_or_eq.1 hk with hk | rfl
            · exact hi.2 k l m hk hl hm
            · rw [hgx] at hl
              rw [hgy] at hm
              rw [← Option.some.inj hl, ← Option.some.inj hm]
              exact hpe
          · simp -implicitDefEqProofs only [push_cast, ↓reduceIte, Nat.reduceEqDiff, Nat.reduceAdd, Nat.reduceMul, Nat.reduceSub, Nat.reduceLeDiff, Nat.reduceLT, reduceCtorEq]
            exact Le.refl _
    · skip
      refine SC.exit ?_
      simp -implicitDefEqProofs only [push_cast, ↓reduceIte, Nat.reduceEqDiff, Nat.reduceAdd, Nat.reduceMul, Nat.reduceSub, Nat.reduceLeDiff, Nat.reduceLT, reduceCtorEq]
      refine hK5 _ ?_
      clear hK5
      refine SC.seqN [4] [] fun K19 hK19 => SC.region ?_
      simp -implicitDefEqProofs only [push_cast, ↓reduceIte, Nat.reduceEqDiff, Nat.reduceAdd, Nat.reduceMul, Nat.reduceSub, Nat.reduceLeDiff, Nat.reduceLT, reduceCtorEq]
      refine hK19 _ ?_
      clear hK19
      refine SC.ret ?_
      simp -implicitDefEqProofs only [push_cast, ↓reduceIte, Nat.reduceEqDiff, Nat.reduceAdd, Nat.reduceMul, Nat.reduceSub, Nat.reduceLeDiff, Nat.reduceLT, reduceCtorEq, Tryd.f26]
      have hxe : x = y := list_ext_pre hlen fun k u v hu hv => hi.2 k u v (by have := (List.getElem?_eq_some_iff.1 hu).1; omega) hu hv
      simp [timesEq, hxe]
end Go.Proofs.YtmamodnpghlgcaaDoor
/- Spread. -/

set_option linter.unusedSimpArgs false
set_option linter.unusedVariables false
set_option maxRecDepth 100000
set_option maxHeartbeats 4000000
namespace Go.Proofs.YtmamodnpghlgcaaDoor
open Go.RowKit
theorem idx_ints (l : List Int) (j : Nat) : idx (List.map SV.v (ints l)) j = (l[j]?).map fun x => SV.v (.int .i64 x) := by simp [idx_eq, ints]; rfl
theorem ints_set (l : List Int) (o : Nat) (x : Int) : (ints l).set o (.int .i64 x) = ints (l.set o x) := by simp [ints, List.map_set]
def runMax (f : Nat → Int) : Nat → Int
  | 0 => f 0
  | i + 1 => max (f (i + 1)) (runMax f i)
theorem runMax_succ (f : Nat → Int) {i : Nat} (h : 0 < i) : runMax f i = max (f i) (runMax f (i - 1)) := by
  cases i with
  | zero => omega
  | succ i => rfl
theorem runMax_bd {f : Nat → Int} {n : Nat} {B : Int} (h : ∀ i, i < n → 0 ≤ f i ∧ f i ≤ B) : ∀ i, i < n → 0 ≤ runMax f i ∧ runMax f i ≤ B
  | 0, hi => h 0 hi
  | i + 1, hi => by
    have h1 := h (i + 1) hi
    have h2 := runMax_bd h i (by omega)
    simp only [runMax]
    omega
def rowOf (f : Nat → Int) (n : Nat) : List Int := (List.range n).map (runMax f)
def atL (f : Nat → Int) (i n : Nat) : List Int := (List.range n).map fun j => if j < i then runMax f j else 0
theorem atL_length (f : Nat → Int) (i n : Nat) : (atL f i n).length = n := by simp [atL]
theorem atL_get (f : Nat → Int) {i n j : Nat} (hj : j < i) (hn : j < n) : (atL f i n)[j]? = some (runMax f j) := by simp [atL, hn, hj]
theorem atL_set (f : Nat → Int) (i n : Nat) : (atL f i n).set i (runMax f i) = atL f (i + 1) n := by
  apply List.ext_getElem
  · simp [atL]
  · intro j h1 h2
    have hj : j < n := by simpa [atL] using h2
    rw [List.getElem_set]
    split
    · rename_i he; subst he; simp [atL]
    · simp only [atL, List.getElem_map, List.getElem_range]
      by_cases hji : j < i
      · rw [if_pos hji, if_pos (by omega)]
      · rw [if_neg hji, if_neg (by omega)]
theorem atL_max (f : Nat → Int) {i : Nat} (n : Nat) (h : 0 < i) : ((atL f i n).set i (f i)).set i (max (f i) (runMax f (i - 1))) = atL f (i + 1) n := by
  rw [List.set_set, ← runMax_succ f h, atL_set]
theorem atL_fst (f : Nat → Int) {i : Nat} (n : Nat) (h : ¬ 0 < i) : (atL f i n).set i (f i) = atL f (i + 1) n := by
  have : i = 0 := by omega
  subst this
  exact atL_set f 0 n
theorem atL_all (f : Nat → Int) (n : Nat) : atL f n n = rowOf f n := by
  unfold atL rowOf
  apply List.map_congr_left
  intro j hj
  rw [if_pos (List.mem_range.1 hj)]
theorem rowOf_length (f : Nat → Int) (n : Nat) : (rowOf f n).length = n := by simp [rowOf]
theorem zrep_ints (f : Nat → Int) (n : Nat) : zrep [Value.int .i64 0] n = ints (atL f 0 n) := by
  have h : ∀ n, zrep [Value.int .i64 0] n = List.replicate n (Value.int .i64 0) := by
    intro n
    induction n with
    | zero => rfl
    | succ n ih => simp only [zrep, ih, List.replicate_succ]; rfl
  rw [h]
  apply List.ext_getElem
  · simp [ints, atL]
  · intro i h1 h2
    simp [ints, atL]
theorem zrep_nils (n : Nat) : zrep [Value.slice none 0 0] n = List.replicate n (Value.slice none 0 0) := by
  induction n with
  | zero => rfl
  | succ n ih => simp only [zrep, ih, List.replicate_succ]; rfl
/-- What lies in out, when some of its rows are there. -/
def outXs (aa : Nat → Option Addr) (cc : Nat → Nat) (outs : List (List Int)) (n : Nat) : List Value := slcs aa cc outs ++ List.replicate (n - outs.length) (.slice none 0 0)
theorem outXs_length {aa : Nat → Option Addr} {cc : Nat → Nat} {outs : List (List Int)} {n : Nat} (h : outs.length ≤ n) : (outXs aa cc outs n).length = n := by
  simp only [outXs, List.length_append, slcs_length, List.length_replicate]; omega
theorem outXs_get {aa : Nat → Option Addr} {cc : Nat → Nat} {outs : List (List Int)} {n i : Nat} {l : List Int} (h : outs[i]? = some l) : (outXs aa cc outs n)[i]? = some (.slice (aa i) l.length (cc i)) := by
  have hi := (List.getElem?_eq_some_iff.1 h).1
  unfold outXs
  rw [List.getElem?_append_left (by rw [slcs_length]; exact hi)]
  exact slcs_get h
theorem outXs_set {aa aa' : Nat → Option Addr} {cc cc' : Nat → Nat} {outs : List (List Int)} {row : List Int} {n m : Nat} {a : Option Addr} {c : Nat} (hn : outs.length < n) (h : ∀ i, i < outs.length → aa' i = aa i ∧ cc' i = cc i) (ha : aa' outs.length = a) (hc : cc' outs.length = c) (hm : row.length = m) :
    (outXs aa cc outs n).set outs.length (.slice a m c) = outXs aa' cc' (outs ++ [row]) n := by
  have h1 : slcs aa' cc' (outs ++ [row]) = slcs aa cc outs ++ [.slice a m c] := by
    unfold slcs
    rw [List.mapIdx_append]
    congr 1
    · apply List.ext_getElem
      · simp
      · intro i h1 h2
        have hi : i < outs.length := by simpa using h1
        simp [h i hi]
    · simp [ha, hc, hm]
  have h2 : n - outs.length = (n - (outs ++ [row]).length) + 1 := by simp; omega
  unfold outXs
  rw [h1, h2, List.set_append_right _ _ (by rw [slcs_length]; exact Nat.le_refl _), slcs_length, Nat.sub_self, List.replicate_succ, List.set_cons_zero, List.append_assoc]
  rfl
theorem idx_vals (xs : List Value) (j : Nat) : idx (List.map SV.v xs) j = (xs[j]?).map SV.v := by simp [idx_eq]
theorem outXs_all {aa : Nat → Option Addr} {cc : Nat → Nat} {outs : List (List Int)} {n : Nat} (h : outs.length = n) : outXs aa cc outs n = slcs aa cc outs := by simp [outXs, h]
def badTop (l : List Seg) (ps : List Int) (ds : List (List Int)) : Bool := !streamB l || (decide (ps.length < 1) || (decide (100 < ps.length) || decide (ds.length ≠ ps.length)))
def bigD (x : Int) : Bool := decide (x < 0) || decide (1099511627776 < x)
theorem spread3_fn (x : Int) (F : Fact) : Fn Tryd.prog 42 [.int .i64 x] F fun v _ => v = .bool (bigD x) := by
  refine Fn.of_body Tryd.func42 rfl (Nat.le_of_ble_eq_true rfl) (Nat.le_of_ble_eq_true rfl) (by kernel_rfl) ?_
  refine SC.seqN [0] [] fun K1 hK1 => SC.region ?_
  simp -implicitDefEqProofs only [push_cast, ↓reduceIte, Nat.reduceEqDiff, Nat.reduceAdd, Nat.reduceMul, Nat.reduceSub, Nat.reduceLeDiff, Nat.reduceLT, reduceCtorEq]
  refine hK1 _ ?_
  clear hK1
  refine SC.seqN [2] [] fun K2 hK2 => SC.region ?_
  simp -implicitDefEqProofs only [push_cast, ↓reduceIte, Nat.reduceEqDiff, Nat.reduceAdd, Nat.reduceMul, Nat.reduceSub, Nat.reduceLeDiff, Nat.reduceLT, reduceCtorEq]
  suffices key2 : ∀ b, b = bigD x → K2 ⟨[(2, .v (.bool b))], [], F⟩ by
    clear hK2
    refine ⟨fun h => ?_, fun h => ?_⟩
    all_goals exact key2 _ (by simp [bigD, *])
  intro b hb
  subst hb
  refine hK2 _ ?_
  clear hK2
  refine SC.ret ?_
  simp -implicitDefEqProofs only [push_cast, ↓reduceIte, Nat.reduceEqDiff, Nat.reduceAdd, Nat.reduceMul, Nat.reduceSub, Nat.reduceLeDiff, Nat.reduceLT, reduceCtorEq, Tryd.f42]
def getD2 (rs : List (List Int)) (p i : Nat) : Int := (rs.getD p []).getD i 0
def delayA (rs : List (List Int)) (ps : List Int) (ds : List (List Int)) (k i : Nat) : Int := getD2 rs (ps.getD k 0).toNat i + getD2 ds k i
def badK (ps : List Int) (ds : List (List Int)) (n k : Nat) : Bool := match ps[k]?, ds[k]? with
  | some p, some d => decide (p < 0) || (decide ((k : Int) ≤ p) || (decide (d.length ≠ n) || d.any bigD))
  | _, _ => false
def finA (l : List Seg) (i : Nat) : Int := match l[i]? with | some s => s.fin | none => 0
theorem spread2_fn (l : List Seg) (a : Option Addr) (c b i : Nat) (F : Fact) (hF : F.to (rowF a (segsC l))) (hb : F.to (cellsF b 0 [.slice a l.length c])) (hi : i < l.length) (hs : ∀ s ∈ l, s.Ok) : Fn Tryd.prog 39 [.int .i64 i, .pointer (some ⟨b, 0, none⟩)] F fun v _ => v = .int .i64 (finA l i) := by
  have hg : l[i]? = some l[i] := List.getElem?_eq_getElem hi
  have hk := hs _ (List.getElem_mem hi)
  refine Fn.of_body Tryd.func39 rfl (Nat.le_of_ble_eq_true rfl) (Nat.le_of_ble_eq_true rfl) (by kernel_rfl) ?_
  refine SC.seqN [0, 1] [] fun K1 hK1 => SC.region ?_
  simp -implicitDefEqProofs only [push_cast, ↓reduceIte, Nat.reduceEqDiff, Nat.reduceAdd, Nat.reduceMul, Nat.reduceSub, Nat.reduceLeDiff, Nat.reduceLT, reduceCtorEq]
  refine hK1 _ ?_
  clear hK1
  refine SC.seqN [3] [] fun K2 hK2 => SC.region ?_
  simp -implicitDefEqProofs only [push_cast, ↓reduceIte, Nat.reduceEqDiff, Nat.reduceAdd, Nat.reduceMul, Nat.reduceSub, Nat.reduceLeDiff, Nat.reduceLT, reduceCtorEq]
  refine loadAt hb ?_
  simp -implicitDefEqProofs only [push_cast, ↓reduceIte, Nat.reduceEqDiff, Nat.reduceAdd, Nat.reduceMul, Nat.reduceSub, Nat.reduceLeDiff, Nat.reduceLT, reduceCtorEq]
  refine ⟨by omega, rowF_some hF (segsC_ne (by omega)), loadSeg i hF hg rfl rfl ?_⟩
  simp -implicitDefEqProofs only [push_cast, ↓reduceIte, Nat.reduceEqDiff, Nat.reduceAdd, Nat.reduceMul, Nat.reduceSub, Nat.reduceLeDiff, Nat.reduceLT, reduceCtorEq]
  refine callL_fn0 (end_fn l[i] (by unfold Seg.Ok at hk; omega) F) rfl (fun _ h => h) fun v G hv => ?_
  subst hv
  simp -implicitDefEqProofs only [push_cast, ↓reduceIte, Nat.reduceEqDiff, Nat.reduceAdd, Nat.reduceMul, Nat.reduceSub, Nat.reduceLeDiff, Nat.reduceLT, reduceCtorEq]
  refine hK2 _ ?_
  clear hK2
  refine SC.ret ?_
  simp -implicitDefEqProofs only [push_cast, ↓reduceIte, Nat.reduceEqDiff, Nat.reduceAdd, Nat.reduceMul, Nat.reduceSub, Nat.reduceLeDiff, Nat.reduceLT, reduceCtorEq, Tryd.f39]
  simp only [finA, hg]
def spreadRows (l : List Seg) (ps : List Int) (ds : List (List Int)) : Nat → List (List Int)
  | 0 => []
  | k + 1 => spreadRows l ps ds k ++ [rowOf (if k = 0 then finA l else delayA (spreadRows l ps ds k) ps ds k) l.length]
theorem spreadRows_length (l : List Seg) (ps : List Int) (ds : List (List Int)) : ∀ k, (spreadRows l ps ds k).length = k
  | 0 => rfl
  | k + 1 => by simp [spreadRows, spreadRows_length l ps ds k]
theorem spreadRows_row {l : List Seg} {ps : List Int} {ds : List (List Int)} : ∀ {k i : Nat}, i < k → ∃ f, (spreadRows l ps ds k)[i]? = some (rowOf f l.length)
  | k + 1, i, h => by
    by_cases hi : i < k
    · obtain ⟨f, hf⟩ := spreadRows_row (l := l) (ps := ps) (ds := ds) hi
      refine ⟨f, ?_⟩
      simp only [spreadRows]
      rw [List.getElem?_append_left (by rw [spreadRows_length]; exact hi)]; exact hf
    · have : i = k := by omega
      subst this
      refine ⟨if i = 0 then finA l else delayA (spreadRows l ps ds i) ps ds i, ?_⟩
      simp only [spreadRows]
      rw [List.getElem?_append_right (by rw [spreadRows_length]; exact Nat.le_refl _), spreadRows_length, Nat.sub_self]; rfl
def upA {A : Type} (f : Nat → A) (k : Nat) (x : A) : Nat → A := fun i => if i = k then x else f i
theorem upA_same {A : Type} (f : Nat → A) (k : Nat) (x : A) : upA f k x k = x := if_pos rfl
theorem upA_ne {A : Type} {f : Nat → A} {k : Nat} {x : A} {i : Nat} (h : i ≠ k) : upA f k x i = f i := if_neg h
def rowsBd (outs : List (List Int)) : Prop := ∀ (j : Nat) (row : List Int) (x : Int), outs[j]? = some row → x ∈ row → 0 ≤ x ∧ x ≤ 1100000000000 * ((j : Int) + 1)
def spreadBad (l : List Seg) (ps : List Int) (ds : List (List Int)) : Bool := badTop l ps ds || (List.range ps.length).any fun k => decide (1 ≤ k) && badK ps ds l.length k
def spreadR (l : List Seg) (ps : List Int) (ds : List (List Int)) : List (List Int) := if spreadBad l ps ds then [] else spreadRows l ps ds ps.length
def spreadE (l : List Seg) (ps : List Int) (ds : List (List Int)) : Int := if spreadBad l ps ds then 1 else 0
theorem isIntss_nil (F : Fact) : isIntss [] F (.slice none 0 0) := ⟨none, 0, fun _ => none, fun _ => 0, rfl, Nat.le_refl _, rowF_nil _ _, fun i l h => by simp at h⟩
theorem callL_c2 {P : Program} {f : FuncId} {x : SV} {g : Go.Fn} {st : St} {k : SV → St → Prop} {Qp : Value → St → Prop} (h : callL P f [x, .v (.func g #[] #[])] st k Qp) : callL P f [x, .clo g []] st k Qp := by
  refine ⟨fun cx e s a w vs hs hl => h.run cx e s a w vs hs ?_⟩
  simp only [SV.isL, SV.is] at hl ⊢
  obtain ⟨y, ys', h1, h2, y2, ys2, h3, ⟨zs, h4, h5⟩, h6⟩ := hl
  have hz : zs = #[] := by apply Array.ext'; simpa using h5
  exact ⟨y, ys', h1, h2, y2, ys2, h3, by rw [h4, hz], h6⟩
theorem stream_fin {l : List Seg} (h : streamB l = true) : ∀ i, i < l.length → 0 ≤ finA l i ∧ finA l i ≤ 1100000000000 := by
  intro i hi
  simp only [streamB, Bool.and_eq_true, List.all_eq_true, List.mem_range] at h
  have hr := okB_get hi (h.1 i hi)
  simp only [rightB, Bool.and_eq_true, decide_eq_true_eq] at hr
  simp only [finA, List.getElem?_eq_getElem hi, Seg.fin]
  omega
theorem stream_ok {l : List Seg} (h : streamB l = true) : ∀ s ∈ l, s.Ok := by
  intro s hs
  obtain ⟨i, hi, rfl⟩ := List.getElem_of_mem hs
  simp only [streamB, Bool.and_eq_true, List.all_eq_true, List.mem_range] at h
  have hr := okB_get hi (h.1 i hi)
  simp only [rightB, Bool.and_eq_true, decide_eq_true_eq] at hr
  unfold Seg.Ok
  omega
structure SprI where
  outs : List (List Int)
  aa : Nat → Option Addr
  cc : Nat → Nat
  F : Fact

theorem spread_fn (l : List Seg) (ps : List Int) (ds : List (List Int)) (vL vP vD : Value) (F : Fact) (a : Option Addr) (c : Nat) (hvL : vL = .slice a l.length c) (hc : l.length ≤ c) (hF : F.to (rowF a (segsC l))) (hP : isInts ps F vP) (hD : isIntss ds F vD) (hll : l.length ≤ 100000) (hpl : ps.length ≤ 100000) (hdl : ds.length ≤ 100000) (hrd : ∀ d ∈ ds, d.length ≤ 100000) :
    Fn Tryd.prog 17 [vL, vP, vD] F fun v G => ∃ ov, v = .tuple #[ov, .int .i64 (spreadE l ps ds)] ∧ isIntss (spreadR l ps ds) G ov := by
  subst hvL
  obtain ⟨aP, cP, rfl, hcP, hFP⟩ := hP
  obtain ⟨aD, cD, aa0, cc0, rfl, hcD, hFD, hRD⟩ := hD
  refine Fn.of_body Tryd.func17 rfl (Nat.le_of_ble_eq_true rfl) (Nat.le_of_ble_eq_true rfl) (by kernel_rfl) ?_
  refine SC.seqN [1, 3, 5] [.l 3, .l 5, .l 34, .l 8, .l 10, .l 11] fun K1 hK1 => SC.region ?_
  simp -implicitDefEqProofs only [push_cast, ↓reduceIte, Nat.reduceEqDiff, Nat.reduceAdd, Nat.reduceMul, Nat.reduceSub, Nat.reduceLeDiff, Nat.reduceLT, reduceCtorEq]
  refine hK1 _ ?_
  clear hK1
  refine SC.frzB (k := .l 3) rfl rfl fun b3 r3 => ?_
  simp -implicitDefEqProofs only [push_cast, ↓reduceIte, Nat.reduceEqDiff, Nat.reduceAdd, Nat.reduceMul, Nat.reduceSub, Nat.reduceLeDiff, Nat.reduceLT, reduceCtorEq]
  refine SC.frzB (k := .l 5) rfl rfl fun b5 r5 => ?_
  simp -implicitDefEqProofs only [push_cast, ↓reduceIte, Nat.reduceEqDiff, Nat.reduceAdd, Nat.reduceMul, Nat.reduceSub, Nat.reduceLeDiff, Nat.reduceLT, reduceCtorEq]
  obtain ⟨F1, hF1⟩ : ∃ F1, F1 = (F.and (cellsF b3 0 [.slice a l.length c])).and (cellsF b5 0 [.slice aD ds.length cD]) := ⟨_, rfl⟩
  have hto : F1.to F := by rw [hF1]; exact Fact.to_left (Fact.to_left (Fact.to_refl _))
  have hb3 : F1.to (cellsF b3 0 [.slice a l.length c]) := by rw [hF1]; exact Fact.to_left (Fact.to_right (Fact.to_refl _))
  have hb5 : F1.to (cellsF b5 0 [.slice aD ds.length cD]) := by rw [hF1]; exact Fact.to_right (Fact.to_refl _)
  have hFl : F1.to (rowF a (segsC l)) := Fact.to_trans hto hF
  rw [← hF1]
  refine SC.seqN [1, 3, 5] [.l 3, .l 5, .l 34, .l 8, .l 10, .l 11] fun K2 hK2 => ?_
  refine SC.seqN [1, 3, 5, 31] [.l 3, .l 5, .l 34, .l 8, .l 10, .l 11] fun K3 hK3 => SC.region ?_
  simp -implicitDefEqProofs only [push_cast, ↓reduceIte, Nat.reduceEqDiff, Nat.reduceAdd, Nat.reduceMul, Nat.reduceSub, Nat.reduceLeDiff, Nat.reduceLT, reduceCtorEq]
  suffices key3 : ∀ b, b = badTop l ps ds → K3 ⟨[(1, .v (.slice aP ps.length cP)), (3, .v (.pointer (some ⟨b3, 0, none⟩))), (5, .v (.pointer (some ⟨b5, 0, none⟩))), (31, .v (.bool b))], [], F1⟩ by
    clear hK2 hK3
    refine loadAt hb3 ?_
    simp -implicitDefEqProofs only [push_cast, ↓reduceIte, Nat.reduceEqDiff, Nat.reduceAdd, Nat.reduceMul, Nat.reduceSub, Nat.reduceLeDiff, Nat.reduceLT, reduceCtorEq]
    refine callL_fn0 (stream_fn l a c F1 hFl (by omega)) rfl (fun _ h => h) fun v G hv => ?_
    subst hv
    simp -implicitDefEqProofs only [push_cast, ↓reduceIte, Nat.reduceEqDiff, Nat.reduceAdd, Nat.reduceMul, Nat.reduceSub, Nat.reduceLeDiff, Nat.reduceLT, reduceCtorEq]
    cases hS : streamB l
    all_goals simp -implicitDefEqProofs only [push_cast, ↓reduceIte, Nat.reduceEqDiff, Nat.reduceAdd, Nat.reduceMul, Nat.reduceSub, Nat.reduceLeDiff, Nat.reduceLT, reduceCtorEq]
    repeat' (first
      | (with_reducible refine loadAt hb5 ?_
         simp -implicitDefEqProofs only [push_cast, ↓reduceIte, Nat.reduceEqDiff, Nat.reduceAdd, Nat.reduceMul, Nat.reduceSub, Nat.reduceLeDiff, Nat.reduceLT, reduceCtorEq])
      | (with_reducible refine And.intro (by omega) ?_)
      | (with_reducible refine And.intro ?_ ?_)
      | intro h
      | exact rfl)
    all_goals (refine key3 _ ?_; clear key3; first | (exact absurd ‹false = true› (by decide)) | (exact absurd ‹true = false› (by decide)) | (rw [Bool.eq_iff_iff]; simp only [badTop, hS, Bool.not_true, Bool.not_false, Bool.false_or, Bool.true_or, Bool.or_eq_true, decide_eq_true_eq, true_iff, ne_eq]; omega) | (simp [badTop, hS]; done) | (simp_all [badTop]; done) | (simp_all [badTop]; omega))
  intro b hb
  subst hb
  refine hK3 _ ?_
  clear hK3
  refine SC.cond ?_
  simp -implicitDefEqProofs only [push_cast, ↓reduceIte, Nat.reduceEqDiff, Nat.reduceAdd, Nat.reduceMul, Nat.reduceSub, Nat.reduceLeDiff, Nat.reduceLT, reduceCtorEq]
  refine ⟨fun h1 => ?_, fun h1 => ?_⟩
  · skip
    refine SC.seqN [6, 7] [.l 3, .l 5, .l 34, .l 8, .l 10, .l 11] fun K4 hK4 => SC.region ?_
    simp -implicitDefEqProofs only [push_cast, ↓reduceIte, Nat.reduceEqDiff, Nat.reduceAdd, Nat.reduceMul, Nat.reduceSub, Nat.reduceLeDiff, Nat.reduceLT, reduceCtorEq]
    refine hK4 _ ?_
    clear hK4
    refine SC.ret ?_
    simp -implicitDefEqProofs only [push_cast, ↓reduceIte, Nat.reduceEqDiff, Nat.reduceAdd, Nat.reduceMul, Nat.reduceSub, Nat.reduceLeDiff, Nat.reduceLT, reduceCtorEq, Tryd.f17]
    have hb : spreadBad l ps ds = true := by simp [spreadBad, h1]
    exact ⟨_, by rw [spreadE, if_pos hb], by rw [spreadR, if_pos hb]; exact isIntss_nil _⟩
  · skip
    have hbt := h1
    simp only [badTop, Bool.or_eq_false_iff, decide_eq_false_iff_not, Bool.not_eq_false', Classical.not_not] at hbt
    obtain ⟨hst0, hp1, hp2, hdl2⟩ := hbt
    have hs := stream_ok hst0
    have hfin := stream_fin hst0
    refine SC.skip ?_
    simp -implicitDefEqProofs only [push_cast, ↓reduceIte, Nat.reduceEqDiff, Nat.reduceAdd, Nat.reduceMul, Nat.reduceSub, Nat.reduceLeDiff, Nat.reduceLT, reduceCtorEq]
    refine hK2 _ ?_
    clear hK2
    refine SC.seqN [1, 3, 5, 8] [.l 3, .l 5, .l 34, .l 8, .l 10, .l 11] fun K5 hK5 => SC.region ?_
    simp -implicitDefEqProofs only [push_cast, ↓reduceIte, Nat.reduceEqDiff, Nat.reduceAdd, Nat.reduceMul, Nat.reduceSub, Nat.reduceLeDiff, Nat.reduceLT, reduceCtorEq]
    refine ⟨⟨by omega, by rw [mxl]; omega, by omega⟩, ?_⟩
    simp only [Int.toNat_natCast, zrep_nils]
    rw [show List.replicate ps.length (Value.slice none 0 0) = outXs (fun _ => none) (fun _ => 0) [] ps.length by simp [outXs, slcs]]
    refine hK5 _ ?_
    clear hK5
    refine SC.seqN [1, 3, 5, 8, 9] [.l 3, .l 5, .l 34, .l 8, .l 10, .l 11] fun K6 hK6 => SC.region ?_
    simp -implicitDefEqProofs only [push_cast, ↓reduceIte, Nat.reduceEqDiff, Nat.reduceAdd, Nat.reduceMul, Nat.reduceSub, Nat.reduceLeDiff, Nat.reduceLT, reduceCtorEq]
    refine hK6 _ ?_
    clear hK6
    refine SC.seqN [1, 3, 5, 8, 9] [.l 3, .l 5, .l 34, .l 8, .l 10, .l 11] fun K7 hK7 => SC.region ?_
    simp -implicitDefEqProofs only [push_cast, ↓reduceIte, Nat.reduceEqDiff, Nat.reduceAdd, Nat.reduceMul, Nat.reduceSub, Nat.reduceLeDiff, Nat.reduceLT, reduceCtorEq]
    suffices key7 : ∀ (aN : Option Addr) (cN : Nat) (F2 : Fact), F2.to F1 → l.length ≤ cN → F2.to (rowF aN (ints (rowOf (finA l) l.length))) → K7 ⟨[(1, .v (.slice aP ps.length cP)), (3, .v (.pointer (some ⟨b3, 0, none⟩))), (5, .v (.pointer (some ⟨b5, 0, none⟩))), (8, .own (.l 8) 0), (9, .clo (.func 38) [.v (.pointer (some ⟨b3, 0, none⟩)), .own (.l 8) 0])], [(.l 34, .row 46 1 ps.length (outXs (fun _ => aN) (fun _ => cN) [rowOf (finA l) l.length] ps.length)), (.l 8, .box [.row (.l 34)] 47)], F2⟩ by
      clear hK7
      refine callL_in Tryd.func38 rfl (Nat.le_of_ble_eq_true rfl) (Nat.le_of_ble_eq_true rfl) (by kernel_rfl) ?_
      simp -implicitDefEqProofs only [push_cast, ↓reduceIte, Nat.reduceEqDiff, Nat.reduceAdd, Nat.reduceMul, Nat.reduceSub, Nat.reduceLeDiff, Nat.reduceLT, reduceCtorEq]
      refine SC.seqN [0, 1, 2, 3, 6, 1000001, 1000003, 1000005, 1000008, 1000009] [.l 10, .l 34, .l 8] fun K1A1 hK1A1 => SC.region ?_
      simp -implicitDefEqProofs only [push_cast, ↓reduceIte, Nat.reduceEqDiff, Nat.reduceAdd, Nat.reduceMul, Nat.reduceSub, Nat.reduceLeDiff, Nat.reduceLT, reduceCtorEq]
      refine loadAt hb3 ?_
      simp -implicitDefEqProofs only [push_cast, ↓reduceIte, Nat.reduceEqDiff, Nat.reduceAdd, Nat.reduceMul, Nat.reduceSub, Nat.reduceLeDiff, Nat.reduceLT, reduceCtorEq]
      refine ⟨⟨by omega, by rw [mxl]; omega, by omega⟩, ?_⟩
      simp only [Int.toNat_natCast, zrep_ints (finA l)]
      refine hK1A1 _ ?_
      clear hK1A1
      refine SC.seqN [0, 3, 6, 1000001, 1000003, 1000005, 1000008, 1000009] [.l 10, .l 34, .l 8] fun K2A1 hK2A1 => ?_
      refine SC.seqN [0, 1, 3, 6, 12, 13, 1000001, 1000003, 1000005, 1000008, 1000009] [.l 10, .l 34, .l 8] fun K3A1 hK3A1 => SC.region ?_
      simp -implicitDefEqProofs only [push_cast, ↓reduceIte, Nat.reduceEqDiff, Nat.reduceAdd, Nat.reduceMul, Nat.reduceSub, Nat.reduceLeDiff, Nat.reduceLT, reduceCtorEq]
      refine loadAt hb3 ?_
      simp -implicitDefEqProofs only [push_cast, ↓reduceIte, Nat.reduceEqDiff, Nat.reduceAdd, Nat.reduceMul, Nat.reduceSub, Nat.reduceLeDiff, Nat.reduceLT, reduceCtorEq]
      refine hK3A1 _ ?_
      clear hK3A1
      refine SC.block ?_
      refine SC.loop (fun i : Nat => ⟨[(0, .v (.int .i64 0)), (1, .v (.func (.func 39) #[] #[.pointer (some ⟨b3, 0, none⟩)])), (3, .own (.l 8) 0), (6, .row (.l 10)), (12, .v (.int .i64 l.length)), (13, .v (.int .i64 i)), (1000001, .v (.slice aP ps.length cP)), (1000003, .v (.pointer (some ⟨b3, 0, none⟩))), (1000005, .v (.pointer (some ⟨b5, 0, none⟩))), (1000008, .own (.l 8) 0), (1000009, .clo (.func 38) [.v (.pointer (some ⟨b3, 0, none⟩)), .own (.l 8) 0])], [(.l 10, .row 3 1 l.length (ints (atL (finA l) i l.length))), (.l 34, .row 46 1 ps.length (outXs (fun _ => none) (fun _ => 0) [] ps.length)), (.l 8, .box [.row (.l 34)] 47)], F1⟩) (fun i => i ≤ l.length) (fun i => l.length - i) 0 (Le.refl _) (Nat.zero_le _) fun i hi => ?_
      refine SC.seqN [0, 1, 3, 6, 12, 13, 14, 1000001, 1000003, 1000005, 1000008, 1000009] [.l 10, .l 34, .l 8] fun K4A1 hK4A1 => SC.region ?_
      simp -implicitDefEqProofs only [push_cast, ↓reduceIte, Nat.reduceEqDiff, Nat.reduceAdd, Nat.reduceMul, Nat.reduceSub, Nat.reduceLeDiff, Nat.reduceLT, reduceCtorEq]
      refine hK4A1 _ ?_
      clear hK4A1
      refine SC.seqN [0, 1, 3, 6, 12, 13, 1000001, 1000003, 1000005, 1000008, 1000009] [.l 10, .l 34, .l 8] fun K5A1 hK5A1 => ?_
      refine SC.cond ?_
      simp -implicitDefEqProofs only [push_cast, ↓reduceIte, Nat.reduceEqDiff, Nat.reduceAdd, Nat.reduceMul, Nat.reduceSub, Nat.reduceLeDiff, Nat.reduceLT, reduceCtorEq]
      refine ⟨fun h1A1 => ?_, fun h1A1 => ?_⟩
      · skip
        have hil : i < l.length := by omega
        have hgl : l[i]? = some l[i] := List.getElem?_eq_getElem hil
        have hal := atL_length (finA l) i l.length
        refine SC.skip ?_
        simp -implicitDefEqProofs only [push_cast, ↓reduceIte, Nat.reduceEqDiff, Nat.reduceAdd, Nat.reduceMul, Nat.reduceSub, Nat.reduceLeDiff, Nat.reduceLT, reduceCtorEq]
        refine hK5A1 _ ?_
        clear hK5A1
        refine SC.seqN [0, 1, 3, 6, 12, 13, 1000001, 1000003, 1000005, 1000008, 1000009] [.l 10, .l 34, .l 8] fun K6A1 hK6A1 => ?_
        refine SC.block ?_
        refine SC.seqN [0, 1, 3, 6, 7, 12, 13, 1000001, 1000003, 1000005, 1000008, 1000009] [.l 10, .l 34, .l 8] fun K7A1 hK7A1 => SC.region ?_
        simp -implicitDefEqProofs only [push_cast, ↓reduceIte, Nat.reduceEqDiff, Nat.reduceAdd, Nat.reduceMul, Nat.reduceSub, Nat.reduceLeDiff, Nat.reduceLT, reduceCtorEq]
        refine hK7A1 _ ?_
        clear hK7A1
        refine SC.seqN [0, 1, 3, 6, 7, 12, 13, 1000001, 1000003, 1000005, 1000008, 1000009] [.l 10, .l 34, .l 8] fun K8A1 hK8A1 => SC.region ?_
        simp -implicitDefEqProofs only [push_cast, ↓reduceIte, Nat.reduceEqDiff, Nat.reduceAdd, Nat.reduceMul, Nat.reduceSub, Nat.reduceLeDiff, Nat.reduceLT, reduceCtorEq]
        refine callL_fn0 (spread2_fn l a c b3 i F1 hFl hb3 hil hs) rfl (fun _ h => h) fun v G hv => ?_
        subst hv
        simp -implicitDefEqProofs only [push_cast, ↓reduceIte, Nat.reduceEqDiff, Nat.reduceAdd, Nat.reduceMul, Nat.reduceSub, Nat.reduceLeDiff, Nat.reduceLT, reduceCtorEq]
        refine ⟨by omega, by rw [ints_length, hal]; omega, ?_⟩
        simp only [Int.toNat_natCast, Nat.mul_one, ints_set]
        refine hK8A1 _ ?_
        clear hK8A1
        refine SC.seqN [0, 1, 3, 6, 7, 12, 13, 23, 1000001, 1000003, 1000005, 1000008, 1000009] [.l 10, .l 34, .l 8] fun K9A1 hK9A1 => SC.region ?_
        simp -implicitDefEqProofs only [push_cast, ↓reduceIte, Nat.reduceEqDiff, Nat.reduceAdd, Nat.reduceMul, Nat.reduceSub, Nat.reduceLeDiff, Nat.reduceLT, reduceCtorEq]
        refine hK9A1 _ ?_
        clear hK9A1
        refine SC.cond ?_
        simp -implicitDefEqProofs only [push_cast, ↓reduceIte, Nat.reduceEqDiff, Nat.reduceAdd, Nat.reduceMul, Nat.reduceSub, Nat.reduceLeDiff, Nat.reduceLT, reduceCtorEq]
        refine ⟨fun h2A1 => ?_, fun h2A1 => ?_⟩
        · skip
          have h0 : 0 < i := by omega
          refine SC.drawnP (.take 0 (.take 1 (.take 2 (.take 3 (.take 4 (.take 6 (.take 7 (.take 8 (.take 9 (.load 5 (.load 10 (.take 11 (.take 12 (.fork 13 (.done) (.stop))))))))))))))) (by kernel_rfl) (by kernel_rfl) (fun _ _ h => h) ?_
          simp -implicitDefEqProofs only [push_cast, ↓reduceIte, Nat.reduceEqDiff, Nat.reduceAdd, Nat.reduceMul, Nat.reduceSub, Nat.reduceLeDiff, Nat.reduceLT, reduceCtorEq]
          have hg1 : ((atL (finA l) i l.length).set i ((finA l) i))[i]? = some ((finA l) i) := by rw [List.getElem?_set_self (by rw [hal]; omega)]
          have hg2 : ((atL (finA l) i l.length).set i ((finA l) i))[i - 1]? = some (runMax (finA l) (i - 1)) := by rw [List.getElem?_set_ne (by omega)]; exact atL_get _ (by omega) (by omega)
          have ht1 : (((i : Int)) - 1).toNat = i - 1 := by omega
          refine ⟨by omega, by omega, by omega, ?_⟩
          simp only [Int.toNat_natCast, Nat.mul_one, ht1, idx_ints, hg1, hg2, push_cast, ↓reduceIte, Nat.reduceEqDiff, Nat.reduceAdd, Nat.reduceMul, Nat.reduceSub, Nat.reduceLeDiff, Nat.reduceLT, reduceCtorEq]
          refine ⟨by omega, by rw [ints_length, List.length_set, hal]; omega, ?_⟩
          simp only [ints_set]
          refine hK6A1 _ ?_
          clear hK6A1
          refine SC.region ?_
          simp -implicitDefEqProofs only [push_cast, ↓reduceIte, Nat.reduceEqDiff, Nat.reduceAdd, Nat.reduceMul, Nat.reduceSub, Nat.reduceLeDiff, Nat.reduceLT, reduceCtorEq]
          refine ⟨by omega, i + 1, by omega, by omega, Le.trans (Le.norm _ [0, 1, 3, 6, 12, 13, 1000001, 1000003, 1000005, 1000008, 1000009] [.l 10, .l 34, .l 8]) ?_⟩
          simp -implicitDefEqProofs only [push_cast, ↓reduceIte, Nat.reduceEqDiff, Nat.reduceAdd, Nat.reduceMul, Nat.reduceSub, Nat.reduceLeDiff, Nat.reduceLT, reduceCtorEq]
          first
            | (rw [atL_max (finA l) l.length h0]
               exact Le.refl _)
            | (rw [atL_fst (finA l) l.length (by omega)]
               exact Le.refl _)
        · skip
          refine SC.skip ?_
          simp -implicitDefEqProofs only [push_cast, ↓reduceIte, Nat.reduceEqDiff, Nat.reduceAdd, Nat.reduceMul, Nat.reduceSub, Nat.reduceLeDiff, Nat.reduceLT, reduceCtorEq]
          refine hK6A1 _ ?_
          clear hK6A1
          refine SC.region ?_
          simp -implicitDefEqProofs only [push_cast, ↓reduceIte, Nat.reduceEqDiff, Nat.reduceAdd, Nat.reduceMul, Nat.reduceSub, Nat.reduceLeDiff, Nat.reduceLT, reduceCtorEq]
          refine ⟨by omega, i + 1, by omega, by omega, Le.trans (Le.norm _ [0, 1, 3, 6, 12, 13, 1000001, 1000003, 1000005, 1000008, 1000009] [.l 10, .l 34, .l 8]) ?_⟩
          simp -implicitDefEqProofs only [push_cast, ↓reduceIte, Nat.reduceEqDiff, Nat.reduceAdd, Nat.reduceMul, Nat.reduceSub, Nat.reduceLeDiff, Nat.reduceLT, reduceCtorEq]
          first
            | (rw [atL_max (finA l) l.length h0]
               exact Le.refl _)
            | (rw [atL_fst (finA l) l.length (by omega)]
               exact Le.refl _)
      · skip
        have hi2 : i = l.length := by omega
        subst hi2
        refine SC.exit ?_
        simp -implicitDefEqProofs only [push_cast, ↓reduceIte, Nat.reduceEqDiff, Nat.reduceAdd, Nat.reduceMul, Nat.reduceSub, Nat.reduceLeDiff, Nat.reduceLT, reduceCtorEq]
        refine hK2A1 _ ?_
        clear hK2A1
        refine SC.frzRow (k := .l 10) rfl (by rw [ints_length, atL_length]; omega) fun aN bN cN hcN => ?_
        simp -implicitDefEqProofs only [push_cast, ↓reduceIte, Nat.reduceEqDiff, Nat.reduceAdd, Nat.reduceMul, Nat.reduceSub, Nat.reduceLeDiff, Nat.reduceLT, reduceCtorEq]
        refine SC.region ?_
        simp -implicitDefEqProofs only [push_cast, ↓reduceIte, Nat.reduceEqDiff, Nat.reduceAdd, Nat.reduceMul, Nat.reduceSub, Nat.reduceLeDiff, Nat.reduceLT, reduceCtorEq]
        have hst : (outXs (fun _ => none) (fun _ => 0) [] ps.length).set (Int.toNat 0 * 1) (.slice aN l.length cN) = outXs (fun _ => aN) (fun _ => cN) [rowOf (finA l) l.length] ps.length := outXs_set (outs := []) (by simp; omega) (fun i hi => absurd hi (by simp)) rfl rfl (rowOf_length _ _)
        refine ⟨by omega, by rw [outXs_length (by simp)]; omega, ?_⟩
        simp -implicitDefEqProofs only [push_cast, ↓reduceIte, Nat.reduceEqDiff, Nat.reduceAdd, Nat.reduceMul, Nat.reduceSub, Nat.reduceLeDiff, Nat.reduceLT, reduceCtorEq, Tryd.f38, hst, atL_all]
        exact key7 aN cN _ (Fact.to_left (Fact.to_refl _)) hcN (Fact.to_right (Fact.to_refl _))
        -- END
    intro aN cN F2 hto2 hcN hrN
    refine hK7 _ ?_
    clear hK7
    refine SC.seqN [8] [.l 3, .l 5, .l 34, .l 8, .l 10, .l 11] fun K8 hK8 => ?_
    refine SC.seqN [1, 3, 5, 8, 9, 10] [.l 3, .l 5, .l 34, .l 8, .l 10, .l 11] fun K9 hK9 => SC.region ?_
    simp -implicitDefEqProofs only [push_cast, ↓reduceIte, Nat.reduceEqDiff, Nat.reduceAdd, Nat.reduceMul, Nat.reduceSub, Nat.reduceLeDiff, Nat.reduceLT, reduceCtorEq]
    refine hK9 _ ?_
    clear hK9
    refine SC.block ?_
    refine SC.loop (fun x : SprI => ⟨[(1, .v (.slice aP ps.length cP)), (3, .v (.pointer (some ⟨b3, 0, none⟩))), (5, .v (.pointer (some ⟨b5, 0, none⟩))), (8, .own (.l 8) 0), (9, .clo (.func 38) [.v (.pointer (some ⟨b3, 0, none⟩)), .own (.l 8) 0]), (10, .own (.l 10) 0)], [(.l 34, .row 46 1 ps.length (outXs x.aa x.cc x.outs ps.length)), (.l 8, .box [.row (.l 34)] 47), (.l 10, .box [.v (.int .i64 x.outs.length)] 3)], x.F⟩) (fun x => 1 ≤ x.outs.length ∧ x.outs.length ≤ ps.length ∧ x.outs = spreadRows l ps ds x.outs.length ∧ x.F.to F1 ∧ rowsOk x.F x.aa x.cc x.outs ∧ (∀ j, 1 ≤ j → j < x.outs.length → badK ps ds l.length j = false) ∧ rowsBd x.outs) (fun x => ps.length - x.outs.length) ⟨[rowOf (finA l) l.length], fun _ => aN, fun _ => cN, F2⟩ (Le.refl _) ?_ fun x hx => ?_
    · refine ⟨by simp, by simp; omega, by simp [spreadRows], hto2, ?_, fun j h1 h2 => absurd h2 (by simp; omega), ?_⟩
      · intro i l' hl'
        cases i with
        | zero =>
          simp only [List.getElem?_cons_zero, Option.some.injEq] at hl'
          subst hl'
          exact ⟨by rw [rowOf_length]; exact hcN, hrN⟩
        | succ i => simp at hl'
      · show rowsBd [rowOf (finA l) l.length]
        intro j row x hj hx
        cases j with
        | zero =>
          simp only [List.getElem?_cons_zero, Option.some.injEq] at hj
          subst hj
          obtain ⟨i, hi, rfl⟩ := List.mem_map.1 hx
          have := runMax_bd (n := l.length) hfin i (List.mem_range.1 hi)
          simp only [Int.ofNat_zero, Int.zero_add]
          omega
        | succ j => simp at hj
    obtain ⟨outs, aa, cc, Fx⟩ := x
    simp only at hx
    obtain ⟨hk1, hk3, hsr, htx, hro, hbk, hrb⟩ := hx
    have hFPx : Fx.to (rowF aP (ints ps)) := Fact.to_trans htx (Fact.to_trans hto hFP)
    refine SC.seqN [1, 3, 5, 8, 9, 10] [.l 3, .l 5, .l 34, .l 8, .l 10, .l 11] fun K10 hK10 => ?_
    refine SC.seqN [1, 3, 5, 8, 9, 10, 42] [.l 3, .l 5, .l 34, .l 8, .l 10, .l 11] fun K11 hK11 => SC.region ?_
    simp -implicitDefEqProofs only [push_cast, ↓reduceIte, Nat.reduceEqDiff, Nat.reduceAdd, Nat.reduceMul, Nat.reduceSub, Nat.reduceLeDiff, Nat.reduceLT, reduceCtorEq]
    refine hK11 _ ?_
    clear hK11
    refine SC.cond ?_
    simp -implicitDefEqProofs only [push_cast, ↓reduceIte, Nat.reduceEqDiff, Nat.reduceAdd, Nat.reduceMul, Nat.reduceSub, Nat.reduceLeDiff, Nat.reduceLT, reduceCtorEq]
    refine ⟨fun h2 => ?_, fun h2 => ?_⟩
    · skip
      have hk2 : outs.length < ps.length := by omega
      have hgp : ps[outs.length]? = some ps[outs.length] := List.getElem?_eq_getElem hk2
      have hgd : ds[outs.length]? = some (ds[outs.length]'(by omega)) := List.getElem?_eq_getElem (by omega)
      refine SC.skip ?_
      simp -implicitDefEqProofs only [push_cast, ↓reduceIte, Nat.reduceEqDiff, Nat.reduceAdd, Nat.reduceMul, Nat.reduceSub, Nat.reduceLeDiff, Nat.reduceLT, reduceCtorEq]
      refine hK10 _ ?_
      clear hK10
      refine SC.seqN [1, 3, 5, 8, 9, 10] [.l 3, .l 5, .l 34, .l 8, .l 10, .l 11] fun K12 hK12 => ?_
      refine SC.block ?_
      refine SC.seqN [1, 3, 5, 8, 9, 10, 11] [.l 3, .l 5, .l 34, .l 8, .l 10, .l 11] fun K13 hK13 => SC.region ?_
      simp -implicitDefEqProofs only [push_cast, ↓reduceIte, Nat.reduceEqDiff, Nat.reduceAdd, Nat.reduceMul, Nat.reduceSub, Nat.reduceLeDiff, Nat.reduceLT, reduceCtorEq]
      refine ⟨by omega, rowF_some hFPx (ints_ne (by omega)), loadInt outs.length hFPx hgp rfl ?_⟩
      simp -implicitDefEqProofs only [push_cast, ↓reduceIte, Nat.reduceEqDiff, Nat.reduceAdd, Nat.reduceMul, Nat.reduceSub, Nat.reduceLeDiff, Nat.reduceLT, reduceCtorEq]
      refine hK13 _ ?_
      clear hK13
      refine SC.frzB (k := .l 10) rfl rfl fun b10 r10 => ?_
      simp -implicitDefEqProofs only [push_cast, ↓reduceIte, Nat.reduceEqDiff, Nat.reduceAdd, Nat.reduceMul, Nat.reduceSub, Nat.reduceLeDiff, Nat.reduceLT, reduceCtorEq]
      refine SC.frzB (k := .l 11) rfl rfl fun b11 r11 => ?_
      simp -implicitDefEqProofs only [push_cast, ↓reduceIte, Nat.reduceEqDiff, Nat.reduceAdd, Nat.reduceMul, Nat.reduceSub, Nat.reduceLeDiff, Nat.reduceLT, reduceCtorEq]
      obtain ⟨F3, hF3⟩ : ∃ F3, F3 = (Fx.and (cellsF b10 0 [.int .i64 outs.length])).and (cellsF b11 0 [.int .i64 ps[outs.length]]) := ⟨_, rfl⟩
      have hto3 : F3.to Fx := by rw [hF3]; exact Fact.to_left (Fact.to_left (Fact.to_refl _))
      have hb10 : F3.to (cellsF b10 0 [.int .i64 outs.length]) := by rw [hF3]; exact Fact.to_left (Fact.to_right (Fact.to_refl _))
      have hb11 : F3.to (cellsF b11 0 [.int .i64 ps[outs.length]]) := by rw [hF3]; exact Fact.to_right (Fact.to_refl _)
      have hto31 : F3.to F1 := Fact.to_trans hto3 htx
      have hb3c : F3.to (cellsF b3 0 [.slice a l.length c]) := Fact.to_trans hto31 hb3
      have hb5c : F3.to (cellsF b5 0 [.slice aD ds.length cD]) := Fact.to_trans hto31 hb5
      have hFD3 : F3.to (rowF aD (slcs aa0 cc0 ds)) := Fact.to_trans hto31 (Fact.to_trans hto hFD)
      have hRD3 : F3.to (rowF (aa0 outs.length) (ints (ds[outs.length]'(by omega)))) := Fact.to_trans hto31 (Fact.to_trans hto (hRD _ _ hgd).2)
      have hlD := hrd (ds[outs.length]'(by omega)) (List.getElem_mem _)
      rw [← hF3]
      refine SC.seqN [1, 3, 5, 8, 9, 10, 11] [.l 3, .l 5, .l 34, .l 8, .l 10, .l 11] fun K14 hK14 => ?_
      refine SC.seqN [1, 3, 5, 8, 9, 10, 11, 72] [.l 3, .l 5, .l 34, .l 8, .l 10, .l 11] fun K15 hK15 => SC.drawnP (.load 0 (.take 1 (.take 2 (.load 3 (.load 4 (.take 5 (.take 6 (.take 7 (.load 8 (.load 9 (.take 10 (.load 11 (.take 12 (.load 13 (.take 14 (.take 15 (.take 16 (.take 17 (.load 18 (.load 19 (.take 20 (.load 21 (.forkE 22 [3, 5, 10, 11, 59] (.take 23 (.done)) (.stop)))))))))))))))))))))))) (by kernel_rfl) (by kernel_rfl) (fun _ _ h => h) ?_
      simp -implicitDefEqProofs only [push_cast, ↓reduceIte, Nat.reduceEqDiff, Nat.reduceAdd, Nat.reduceMul, Nat.reduceSub, Nat.reduceLeDiff, Nat.reduceLT, reduceCtorEq]
      suffices key15 : ∀ b, b = badK ps ds l.length outs.length → K15 ⟨[(1, .v (.slice aP ps.length cP)), (3, .v (.pointer (some ⟨b3, 0, none⟩))), (5, .v (.pointer (some ⟨b5, 0, none⟩))), (8, .own (.l 8) 0), (9, .clo (.func 38) [.v (.pointer (some ⟨b3, 0, none⟩)), .own (.l 8) 0]), (10, .v (.pointer (some ⟨b10, 0, none⟩))), (11, .v (.pointer (some ⟨b11, 0, none⟩))), (72, .v (.bool b))], [(.l 34, .row 46 1 ps.length (outXs aa cc outs ps.length)), (.l 8, .box [.row (.l 34)] 47)], F3⟩ by
        clear hK8 hK12 hK14 hK15
        repeat' (first
          | (with_reducible refine loadAt hb11 ?_
             simp -implicitDefEqProofs only [push_cast, ↓reduceIte, Nat.reduceEqDiff, Nat.reduceAdd, Nat.reduceMul, Nat.reduceSub, Nat.reduceLeDiff, Nat.reduceLT, reduceCtorEq])
          | (with_reducible refine loadAt hb10 ?_
             simp -implicitDefEqProofs only [push_cast, ↓reduceIte, Nat.reduceEqDiff, Nat.reduceAdd, Nat.reduceMul, Nat.reduceSub, Nat.reduceLeDiff, Nat.reduceLT, reduceCtorEq])
          | (with_reducible refine loadAt hb5c ?_
             simp -implicitDefEqProofs only [push_cast, ↓reduceIte, Nat.reduceEqDiff, Nat.reduceAdd, Nat.reduceMul, Nat.reduceSub, Nat.reduceLeDiff, Nat.reduceLT, reduceCtorEq])
          | (with_reducible refine loadAt hb3c ?_
             simp -implicitDefEqProofs only [push_cast, ↓reduceIte, Nat.reduceEqDiff, Nat.reduceAdd, Nat.reduceMul, Nat.reduceSub, Nat.reduceLeDiff, Nat.reduceLT, reduceCtorEq])
          | (with_reducible refine And.intro (rowF_some hFD3 (slcs_ne (by omega))) ?_)
          | (with_reducible refine loadRow outs.length hFD3 hgd ?_ ?_
             · rfl
             simp -implicitDefEqProofs only [push_cast, ↓reduceIte, Nat.reduceEqDiff, Nat.reduceAdd, Nat.reduceMul, Nat.reduceSub, Nat.reduceLeDiff, Nat.reduceLT, reduceCtorEq])
          | (with_reducible refine callL_c2 ?_)
          | (with_reducible refine callL_fn0 (containsInt_fn (ds[outs.length]'(by omega)) (aa0 outs.length) (cc0 outs.length) 42 #[] bigD F3 hRD3 (by omega) (by kernel_rfl) fun s _ => spread3_fn s F3) ?_ (fun _ h => h) ?_
             · rfl
             intro v G hv
             subst hv
             simp -implicitDefEqProofs only [push_cast, ↓reduceIte, Nat.reduceEqDiff, Nat.reduceAdd, Nat.reduceMul, Nat.reduceSub, Nat.reduceLeDiff, Nat.reduceLT, reduceCtorEq])
          | (with_reducible refine And.intro (by omega) ?_)
          | (with_reducible refine And.intro ?_ ?_)
          | intro h
          | exact rfl)
        all_goals (refine key15 _ ?_; clear key15; simp only [badK, hgp, hgd])
        all_goals (cases hA : (ds[outs.length]'(by omega)).any bigD)
        all_goals (rw [Bool.eq_iff_iff]; simp only [hA, Bool.or_eq_true, decide_eq_true_eq, Bool.false_eq_true, or_false, or_true, true_iff, false_iff, iff_true, iff_false]; try omega)
      intro b hb
      subst hb
      refine hK15 _ ?_
      clear hK15
      refine SC.cond ?_
      simp -implicitDefEqProofs only [push_cast, ↓reduceIte, Nat.reduceEqDiff, Nat.reduceAdd, Nat.reduceMul, Nat.reduceSub, Nat.reduceLeDiff, Nat.reduceLT, reduceCtorEq]
      refine ⟨fun h3 => ?_, fun h3 => ?_⟩
      · skip
        refine SC.seqN [6, 7] [.l 3, .l 5, .l 34, .l 8, .l 10, .l 11] fun K16 hK16 => SC.region ?_
        simp -implicitDefEqProofs only [push_cast, ↓reduceIte, Nat.reduceEqDiff, Nat.reduceAdd, Nat.reduceMul, Nat.reduceSub, Nat.reduceLeDiff, Nat.reduceLT, reduceCtorEq]
        refine hK16 _ ?_
        clear hK16
        refine SC.ret ?_
        simp -implicitDefEqProofs only [push_cast, ↓reduceIte, Nat.reduceEqDiff, Nat.reduceAdd, Nat.reduceMul, Nat.reduceSub, Nat.reduceLeDiff, Nat.reduceLT, reduceCtorEq, Tryd.f17]
        have hb : spreadBad l ps ds = true := by
          simp only [spreadBad, Bool.or_eq_true]
          exact .inr (List.any_eq_true.2 ⟨outs.length, List.mem_range.2 hk2, by simp [hk1, h3]⟩)
        exact ⟨_, by rw [spreadE, if_pos hb], by rw [spreadR, if_pos hb]; exact isIntss_nil _⟩
      · skip
        have hbK := h3
        simp only [badK, hgp, hgd, Bool.or_eq_false_iff, decide_eq_false_iff_not, Classical.not_not] at hbK
        obtain ⟨hq0, hq1, hq2, hq3⟩ := hbK
        have hrows : ∀ i, i < outs.length → ∃ po, outs[i]? = some po ∧ po.length = l.length ∧ F3.to (rowF (aa i) (ints po)) := by
          intro i hi
          obtain ⟨f, hf⟩ := spreadRows_row (l := l) (ps := ps) (ds := ds) hi
          rw [← hsr] at hf
          exact ⟨_, hf, rowOf_length _ _, Fact.to_trans hto3 (hro i _ hf).2⟩
        have hbd1 : ∀ i, i < l.length → 0 ≤ delayA outs ps ds outs.length i ∧ delayA outs ps ds outs.length i ≤ 1100000000000 * ((outs.length : Int) + 1) := by
          intro i hi
          obtain ⟨po, hpo, hpl, _⟩ := hrows (ps[outs.length]).toNat (by omega)
          have hv1 : po[i]? = some (po[i]'(by omega)) := List.getElem?_eq_getElem (by omega)
          have hv2 : (ds[outs.length]'(by omega))[i]? = some ((ds[outs.length]'(by omega))[i]'(by omega)) := List.getElem?_eq_getElem (by omega)
          simp only [delayA, getD2, List.getD_eq_getElem?_getD, hgp, hgd, hpo, hv1, hv2, Option.getD_some]
          have h1 := hrb _ po (po[i]'(by omega)) hpo (List.getElem_mem _)
          have h2 := List.any_eq_false.1 hq3 ((ds[outs.length]'(by omega))[i]'(by omega)) (List.getElem_mem _)
          simp only [bigD, Bool.or_eq_true, decide_eq_true_eq, not_or] at h2
          omega
        refine SC.skip ?_
        simp -implicitDefEqProofs only [push_cast, ↓reduceIte, Nat.reduceEqDiff, Nat.reduceAdd, Nat.reduceMul, Nat.reduceSub, Nat.reduceLeDiff, Nat.reduceLT, reduceCtorEq]
        refine hK14 _ ?_
        clear hK14
        refine SC.region ?_
        simp -implicitDefEqProofs only [push_cast, ↓reduceIte, Nat.reduceEqDiff, Nat.reduceAdd, Nat.reduceMul, Nat.reduceSub, Nat.reduceLeDiff, Nat.reduceLT, reduceCtorEq]
        suffices hkE : ∀ (aN : Option Addr) (cN : Nat) (F4 : Fact), F4.to F3 → l.length ≤ cN → F4.to (rowF aN (ints (rowOf (delayA outs ps ds outs.length) l.length))) → K12 ⟨[(1, .v (.slice aP ps.length cP)), (3, .v (.pointer (some ⟨b3, 0, none⟩))), (5, .v (.pointer (some ⟨b5, 0, none⟩))), (8, .own (.l 8) 0), (9, .clo (.func 38) [.v (.pointer (some ⟨b3, 0, none⟩)), .own (.l 8) 0]), (10, .v (.pointer (some ⟨b10, 0, none⟩)))], [(.l 34, .row 46 1 ps.length (outXs (upA aa outs.length aN) (upA cc outs.length cN) (outs ++ [rowOf (delayA outs ps ds outs.length) l.length]) ps.length)), (.l 8, .box [.row (.l 34)] 47)], F4⟩ by
          refine loadAt hb10 ?_
          simp -implicitDefEqProofs only [push_cast, ↓reduceIte, Nat.reduceEqDiff, Nat.reduceAdd, Nat.reduceMul, Nat.reduceSub, Nat.reduceLeDiff, Nat.reduceLT, reduceCtorEq]
          refine callL_in Tryd.func38 rfl (Nat.le_of_ble_eq_true rfl) (Nat.le_of_ble_eq_true rfl) (by kernel_rfl) ?_
          simp -implicitDefEqProofs only [push_cast, ↓reduceIte, Nat.reduceEqDiff, Nat.reduceAdd, Nat.reduceMul, Nat.reduceSub, Nat.reduceLeDiff, Nat.reduceLT, reduceCtorEq]
          refine SC.seqN [0, 1, 2, 3, 6, 1000001, 1000003, 1000005, 1000008, 1000009, 1000010] [.l 10, .l 34, .l 8] fun K1A2 hK1A2 => SC.region ?_
          simp -implicitDefEqProofs only [push_cast, ↓reduceIte, Nat.reduceEqDiff, Nat.reduceAdd, Nat.reduceMul, Nat.reduceSub, Nat.reduceLeDiff, Nat.reduceLT, reduceCtorEq]
          refine loadAt hb3c ?_
          simp -implicitDefEqProofs only [push_cast, ↓reduceIte, Nat.reduceEqDiff, Nat.reduceAdd, Nat.reduceMul, Nat.reduceSub, Nat.reduceLeDiff, Nat.reduceLT, reduceCtorEq]
          refine ⟨⟨by omega, by rw [mxl]; omega, by omega⟩, ?_⟩
          simp only [Int.toNat_natCast, zrep_ints (delayA outs ps ds outs.length)]
          refine hK1A2 _ ?_
          clear hK1A2
          refine SC.seqN [0, 3, 6, 1000001, 1000003, 1000005, 1000008, 1000009, 1000010] [.l 10, .l 34, .l 8] fun K2A2 hK2A2 => ?_
          refine SC.seqN [0, 1, 3, 6, 12, 13, 1000001, 1000003, 1000005, 1000008, 1000009, 1000010] [.l 10, .l 34, .l 8] fun K3A2 hK3A2 => SC.region ?_
          simp -implicitDefEqProofs only [push_cast, ↓reduceIte, Nat.reduceEqDiff, Nat.reduceAdd, Nat.reduceMul, Nat.reduceSub, Nat.reduceLeDiff, Nat.reduceLT, reduceCtorEq]
          refine loadAt hb3c ?_
          simp -implicitDefEqProofs only [push_cast, ↓reduceIte, Nat.reduceEqDiff, Nat.reduceAdd, Nat.reduceMul, Nat.reduceSub, Nat.reduceLeDiff, Nat.reduceLT, reduceCtorEq]
          refine hK3A2 _ ?_
          clear hK3A2
          refine SC.block ?_
          refine SC.loop (fun i : Nat => ⟨[(0, .v (.int .i64 outs.length)), (1, .clo (.func 43) [.own (.l 8) 0, .v (.pointer (some ⟨b11, 0, none⟩)), .v (.pointer (some ⟨b5, 0, none⟩)), .v (.pointer (some ⟨b10, 0, none⟩))]), (3, .own (.l 8) 0), (6, .row (.l 10)), (12, .v (.int .i64 l.length)), (13, .v (.int .i64 i)), (1000001, .v (.slice aP ps.length cP)), (1000003, .v (.pointer (some ⟨b3, 0, none⟩))), (1000005, .v (.pointer (some ⟨b5, 0, none⟩))), (1000008, .own (.l 8) 0), (1000009, .clo (.func 38) [.v (.pointer (some ⟨b3, 0, none⟩)), .own (.l 8) 0]), (1000010, .v (.pointer (some ⟨b10, 0, none⟩)))], [(.l 10, .row 3 1 l.length (ints (atL (delayA outs ps ds outs.length) i l.length))), (.l 34, .row 46 1 ps.length (outXs aa cc outs ps.length)), (.l 8, .box [.row (.l 34)] 47)], F3⟩) (fun i => i ≤ l.length) (fun i => l.length - i) 0 (Le.refl _) (Nat.zero_le _) fun i hi => ?_
          refine SC.seqN [0, 1, 3, 6, 12, 13, 14, 1000001, 1000003, 1000005, 1000008, 1000009, 1000010] [.l 10, .l 34, .l 8] fun K4A2 hK4A2 => SC.region ?_
          simp -implicitDefEqProofs only [push_cast, ↓reduceIte, Nat.reduceEqDiff, Nat.reduceAdd, Nat.reduceMul, Nat.reduceSub, Nat.reduceLeDiff, Nat.reduceLT, reduceCtorEq]
          refine hK4A2 _ ?_
          clear hK4A2
          refine SC.seqN [0, 1, 3, 6, 12, 13, 1000001, 1000003, 1000005, 1000008, 1000009, 1000010] [.l 10, .l 34, .l 8] fun K5A2 hK5A2 => ?_
          refine SC.cond ?_
          simp -implicitDefEqProofs only [push_cast, ↓reduceIte, Nat.reduceEqDiff, Nat.reduceAdd, Nat.reduceMul, Nat.reduceSub, Nat.reduceLeDiff, Nat.reduceLT, reduceCtorEq]
          refine ⟨fun h1A2 => ?_, fun h1A2 => ?_⟩
          · skip
            have hil : i < l.length := by omega
            have hgl : l[i]? = some l[i] := List.getElem?_eq_getElem hil
            have hal := atL_length (delayA outs ps ds outs.length) i l.length
            refine SC.skip ?_
            simp -implicitDefEqProofs only [push_cast, ↓reduceIte, Nat.reduceEqDiff, Nat.reduceAdd, Nat.reduceMul, Nat.reduceSub, Nat.reduceLeDiff, Nat.reduceLT, reduceCtorEq]
            refine hK5A2 _ ?_
            clear hK5A2
            refine SC.seqN [0, 1, 3, 6, 12, 13, 1000001, 1000003, 1000005, 1000008, 1000009, 1000010] [.l 10, .l 34, .l 8] fun K6A2 hK6A2 => ?_
            refine SC.block ?_
            refine SC.seqN [0, 1, 3, 6, 7, 12, 13, 1000001, 1000003, 1000005, 1000008, 1000009, 1000010] [.l 10, .l 34, .l 8] fun K7A2 hK7A2 => SC.region ?_
            simp -implicitDefEqProofs only [push_cast, ↓reduceIte, Nat.reduceEqDiff, Nat.reduceAdd, Nat.reduceMul, Nat.reduceSub, Nat.reduceLeDiff, Nat.reduceLT, reduceCtorEq]
            refine hK7A2 _ ?_
            clear hK7A2
            refine SC.seqN [0, 1, 3, 6, 7, 12, 13, 1000001, 1000003, 1000005, 1000008, 1000009, 1000010] [.l 10, .l 34, .l 8] fun K8A2 hK8A2 => SC.region ?_
            simp -implicitDefEqProofs only [push_cast, ↓reduceIte, Nat.reduceEqDiff, Nat.reduceAdd, Nat.reduceMul, Nat.reduceSub, Nat.reduceLeDiff, Nat.reduceLT, reduceCtorEq]
            refine callL_in Tryd.func43 rfl (Nat.le_of_ble_eq_true rfl) (Nat.le_of_ble_eq_true rfl) (by kernel_rfl) ?_
            simp -implicitDefEqProofs only [push_cast, ↓reduceIte, Nat.reduceEqDiff, Nat.reduceAdd, Nat.reduceMul, Nat.reduceSub, Nat.reduceLeDiff, Nat.reduceLT, reduceCtorEq]
            refine SC.seqN [0, 1, 2, 3, 4, 1000000, 1000001, 1000003, 1000006, 1000007, 1000012, 1000013, 1000016, 1000017, 2000001, 2000003, 2000005, 2000008, 2000009, 2000010] [.l 10, .l 34, .l 8] fun K1B1 hK1B1 => SC.region ?_
            simp -implicitDefEqProofs only [push_cast, ↓reduceIte, Nat.reduceEqDiff, Nat.reduceAdd, Nat.reduceMul, Nat.reduceSub, Nat.reduceLeDiff, Nat.reduceLT, reduceCtorEq]
            refine hK1B1 _ ?_
            clear hK1B1
            refine SC.seqN [6, 1000000, 1000001, 1000003, 1000006, 1000007, 1000012, 1000013, 1000016, 1000017, 2000001, 2000003, 2000005, 2000008, 2000009, 2000010] [.l 10, .l 34, .l 8] fun K2B1 hK2B1 => SC.drawnP (.take 4 (.take 11 (.load 1 (.load 7 (.load 8 (.take 9 (.load 10 (.take 12 (.load 13 (.forkE 0 [2, 3, 4, 16, 19] (.take 2 (.load 3 (.take 5 (.load 6 (.take 14 (.take 15 (.done))))))) (.stop))))))))))) (by kernel_rfl) (by kernel_rfl) (fun _ _ h => h) ?_
            simp -implicitDefEqProofs only [push_cast, ↓reduceIte, Nat.reduceEqDiff, Nat.reduceAdd, Nat.reduceMul, Nat.reduceSub, Nat.reduceLeDiff, Nat.reduceLT, reduceCtorEq]
            suffices key2B1 : K2B1 ⟨[(6, .v (.int .i64 (delayA outs ps ds outs.length i))), (1000000, .v (.int .i64 outs.length)), (1000001, .clo (.func 43) [.own (.l 8) 0, .v (.pointer (some ⟨b11, 0, none⟩)), .v (.pointer (some ⟨b5, 0, none⟩)), .v (.pointer (some ⟨b10, 0, none⟩))]), (1000003, .own (.l 8) 0), (1000006, .row (.l 10)), (1000007, .v (.int .i64 i)), (1000012, .v (.int .i64 l.length)), (1000013, .v (.int .i64 i)), (1000016, .row (.l 10)), (1000017, .v (.int .i64 i)), (2000001, .v (.slice aP ps.length cP)), (2000003, .v (.pointer (some ⟨b3, 0, none⟩))), (2000005, .v (.pointer (some ⟨b5, 0, none⟩))), (2000008, .own (.l 8) 0), (2000009, .clo (.func 38) [.v (.pointer (some ⟨b3, 0, none⟩)), .own (.l 8) 0]), (2000010, .v (.pointer (some ⟨b10, 0, none⟩)))], [(.l 10, .row 3 1 l.length (ints (atL (delayA outs ps ds outs.length) i l.length))), (.l 34, .row 46 1 ps.length (outXs aa cc outs ps.length)), (.l 8, .box [.row (.l 34)] 47)], F3⟩ by
              clear hK2B1
              obtain ⟨po, hpo, hpl, hpr⟩ := hrows (ps[outs.length]).toNat (by omega)
              have hgo : (outXs aa cc outs ps.length)[(ps[outs.length]).toNat * 1]? = some (.slice (aa (ps[outs.length]).toNat) po.length (cc (ps[outs.length]).toNat)) := by rw [Nat.mul_one]; exact outXs_get hpo
              have hv1 : po[i]? = some (po[i]'(by omega)) := List.getElem?_eq_getElem (by omega)
              have hv2 : (ds[outs.length]'(by omega))[i]? = some ((ds[outs.length]'(by omega))[i]'(by omega)) := List.getElem?_eq_getElem (by omega)
              have hdl : delayA outs ps ds outs.length i = (po[i]'(by omega)) + ((ds[outs.length]'(by omega))[i]'(by omega)) := by
                simp only [delayA, getD2, List.getD_eq_getElem?_getD, hgp, hgd, hpo, hv1, hv2, Option.getD_some]
              have hbd := hbd1 i hil
              rw [hdl] at key2B1 hbd
              have hrow1 : F3.to (rowF (aa (ps[outs.length]).toNat) (ints po)) := hpr
              repeat' (first
                | exact key2B1
                | (with_reducible refine loadAt hb11 ?_
                   simp -implicitDefEqProofs only [push_cast, ↓reduceIte, Nat.reduceEqDiff, Nat.reduceAdd, Nat.reduceMul, Nat.reduceSub, Nat.reduceLeDiff, Nat.reduceLT, reduceCtorEq])
                | (with_reducible refine loadAt hb5c ?_
                   simp -implicitDefEqProofs only [push_cast, ↓reduceIte, Nat.reduceEqDiff, Nat.reduceAdd, Nat.reduceMul, Nat.reduceSub, Nat.reduceLeDiff, Nat.reduceLT, reduceCtorEq])
                | (with_reducible refine loadAt hb10 ?_
                   simp -implicitDefEqProofs only [push_cast, ↓reduceIte, Nat.reduceEqDiff, Nat.reduceAdd, Nat.reduceMul, Nat.reduceSub, Nat.reduceLeDiff, Nat.reduceLT, reduceCtorEq])
                | (with_reducible refine And.intro (rowF_some hFD3 (slcs_ne (by omega))) ?_)
                | (with_reducible refine And.intro (rowF_some hRD3 (ints_ne (by omega))) ?_)
                | (with_reducible refine And.intro (rowF_some hrow1 (ints_ne (by omega))) ?_)
                | (with_reducible refine loadRow outs.length hFD3 hgd ?_ ?_
                   · rfl
                   simp -implicitDefEqProofs only [push_cast, ↓reduceIte, Nat.reduceEqDiff, Nat.reduceAdd, Nat.reduceMul, Nat.reduceSub, Nat.reduceLeDiff, Nat.reduceLT, reduceCtorEq])
                | (with_reducible refine loadInt i hRD3 hv2 ?_ ?_
                   · rfl
                   simp -implicitDefEqProofs only [push_cast, ↓reduceIte, Nat.reduceEqDiff, Nat.reduceAdd, Nat.reduceMul, Nat.reduceSub, Nat.reduceLeDiff, Nat.reduceLT, reduceCtorEq])
                | (with_reducible refine loadInt i hrow1 hv1 ?_ ?_
                   · rfl
                   simp -implicitDefEqProofs only [push_cast, ↓reduceIte, Nat.reduceEqDiff, Nat.reduceAdd, Nat.reduceMul, Nat.reduceSub, Nat.reduceLeDiff, Nat.reduceLT, reduceCtorEq])
                | (simp only [idx_vals, hgo, Option.map_some, push_cast, ↓reduceIte, Nat.reduceEqDiff, Nat.reduceAdd, Nat.reduceMul, Nat.reduceSub, Nat.reduceLeDiff, Nat.reduceLT, reduceCtorEq])
                | (with_reducible refine And.intro (by omega) ?_)
                | (with_reducible refine And.intro ?_ ?_)
                | intro h
                | exact rfl)
            refine hK2B1 _ ?_
            clear hK2B1
            refine SC.ret ?_
            simp -implicitDefEqProofs only [push_cast, ↓reduceIte, Nat.reduceEqDiff, Nat.reduceAdd, Nat.reduceMul, Nat.reduceSub, Nat.reduceLeDiff, Nat.reduceLT, reduceCtorEq, Tryd.f43]
            refine ⟨by omega, by rw [ints_length, hal]; omega, ?_⟩
            simp only [Int.toNat_natCast, Nat.mul_one, ints_set]
            refine hK8A2 _ ?_
            clear hK8A2
            refine SC.seqN [0, 1, 3, 6, 7, 12, 13, 23, 1000001, 1000003, 1000005, 1000008, 1000009, 1000010] [.l 10, .l 34, .l 8] fun K9A2 hK9A2 => SC.region ?_
            simp -implicitDefEqProofs only [push_cast, ↓reduceIte, Nat.reduceEqDiff, Nat.reduceAdd, Nat.reduceMul, Nat.reduceSub, Nat.reduceLeDiff, Nat.reduceLT, reduceCtorEq]
            refine hK9A2 _ ?_
            clear hK9A2
            refine SC.cond ?_
            simp -implicitDefEqProofs only [push_cast, ↓reduceIte, Nat.reduceEqDiff, Nat.reduceAdd, Nat.reduceMul, Nat.reduceSub, Nat.reduceLeDiff, Nat.reduceLT, reduceCtorEq]
            refine ⟨fun h2A2 => ?_, fun h2A2 => ?_⟩
            · skip
              have h0 : 0 < i := by omega
              refine SC.drawnP (.take 0 (.take 1 (.take 2 (.take 3 (.take 4 (.take 6 (.take 7 (.take 8 (.take 9 (.load 5 (.load 10 (.take 11 (.take 12 (.fork 13 (.done) (.stop))))))))))))))) (by kernel_rfl) (by kernel_rfl) (fun _ _ h => h) ?_
              simp -implicitDefEqProofs only [push_cast, ↓reduceIte, Nat.reduceEqDiff, Nat.reduceAdd, Nat.reduceMul, Nat.reduceSub, Nat.reduceLeDiff, Nat.reduceLT, reduceCtorEq]
              have hg1 : ((atL (delayA outs ps ds outs.length) i l.length).set i ((delayA outs ps ds outs.length) i))[i]? = some ((delayA outs ps ds outs.length) i) := by rw [List.getElem?_set_self (by rw [hal]; omega)]
              have hg2 : ((atL (delayA outs ps ds outs.length) i l.length).set i ((delayA outs ps ds outs.length) i))[i - 1]? = some (runMax (delayA outs ps ds outs.length) (i - 1)) := by rw [List.getElem?_set_ne (by omega)]; exact atL_get _ (by omega) (by omega)
              have ht1 : (((i : Int)) - 1).toNat = i - 1 := by omega
              refine ⟨by omega, by omega, by omega, ?_⟩
              simp only [Int.toNat_natCast, Nat.mul_one, ht1, idx_ints, hg1, hg2, push_cast, ↓reduceIte, Nat.reduceEqDiff, Nat.reduceAdd, Nat.reduceMul, Nat.reduceSub, Nat.reduceLeDiff, Nat.reduceLT, reduceCtorEq]
              refine ⟨by omega, by rw [ints_length, List.length_set, hal]; omega, ?_⟩
              simp only [ints_set]
              refine hK6A2 _ ?_
              clear hK6A2
              refine SC.region ?_
              simp -implicitDefEqProofs only [push_cast, ↓reduceIte, Nat.reduceEqDiff, Nat.reduceAdd, Nat.reduceMul, Nat.reduceSub, Nat.reduceLeDiff, Nat.reduceLT, reduceCtorEq]
              refine ⟨by omega, i + 1, by omega, by omega, Le.trans (Le.norm _ [0, 1, 3, 6, 12, 13, 1000001, 1000003, 1000005, 1000008, 1000009, 1000010] [.l 10, .l 34, .l 8]) ?_⟩
              simp -implicitDefEqProofs only [push_cast, ↓reduceIte, Nat.reduceEqDiff, Nat.reduceAdd, Nat.reduceMul, Nat.reduceSub, Nat.reduceLeDiff, Nat.reduceLT, reduceCtorEq]
              first
                | (rw [atL_max (delayA outs ps ds outs.length) l.length h0]
                   exact Le.refl _)
                | (rw [atL_fst (delayA outs ps ds outs.length) l.length (by omega)]
                   exact Le.refl _)
            · skip
              refine SC.skip ?_
              simp -implicitDefEqProofs only [push_cast, ↓reduceIte, Nat.reduceEqDiff, Nat.reduceAdd, Nat.reduceMul, Nat.reduceSub, Nat.reduceLeDiff, Nat.reduceLT, reduceCtorEq]
              refine hK6A2 _ ?_
              clear hK6A2
              refine SC.region ?_
              simp -implicitDefEqProofs only [push_cast, ↓reduceIte, Nat.reduceEqDiff, Nat.reduceAdd, Nat.reduceMul, Nat.reduceSub, Nat.reduceLeDiff, Nat.reduceLT, reduceCtorEq]
              refine ⟨by omega, i + 1, by omega, by omega, Le.trans (Le.norm _ [0, 1, 3, 6, 12, 13, 1000001, 1000003, 1000005, 1000008, 1000009, 1000010] [.l 10, .l 34, .l 8]) ?_⟩
              simp -implicitDefEqProofs only [push_cast, ↓reduceIte, Nat.reduceEqDiff, Nat.reduceAdd, Nat.reduceMul, Nat.reduceSub, Nat.reduceLeDiff, Nat.reduceLT, reduceCtorEq]
              first
                | (rw [atL_max (delayA outs ps ds outs.length) l.length h0]
                   exact Le.refl _)
                | (rw [atL_fst (delayA outs ps ds outs.length) l.length (by omega)]
                   exact Le.refl _)
          · skip
            have hi2 : i = l.length := by omega
            subst hi2
            refine SC.exit ?_
            simp -implicitDefEqProofs only [push_cast, ↓reduceIte, Nat.reduceEqDiff, Nat.reduceAdd, Nat.reduceMul, Nat.reduceSub, Nat.reduceLeDiff, Nat.reduceLT, reduceCtorEq]
            refine hK2A2 _ ?_
            clear hK2A2
            refine SC.frzRow (k := .l 10) rfl (by rw [ints_length, atL_length]; omega) fun aN bN cN hcN => ?_
            simp -implicitDefEqProofs only [push_cast, ↓reduceIte, Nat.reduceEqDiff, Nat.reduceAdd, Nat.reduceMul, Nat.reduceSub, Nat.reduceLeDiff, Nat.reduceLT, reduceCtorEq]
            refine SC.region ?_
            simp -implicitDefEqProofs only [push_cast, ↓reduceIte, Nat.reduceEqDiff, Nat.reduceAdd, Nat.reduceMul, Nat.reduceSub, Nat.reduceLeDiff, Nat.reduceLT, reduceCtorEq]
            have hst : (outXs aa cc outs ps.length).set ((outs.length : Int).toNat * 1) (.slice aN l.length cN) = outXs (upA aa outs.length aN) (upA cc outs.length cN) (outs ++ [rowOf (delayA outs ps ds outs.length) l.length]) ps.length := by
              rw [Int.toNat_natCast, Nat.mul_one]
              exact outXs_set hk2 (fun i hi => ⟨upA_ne (by omega), upA_ne (by omega)⟩) (upA_same _ _ _) (upA_same _ _ _) (rowOf_length _ _)
            refine ⟨by omega, by rw [outXs_length (by omega), Int.toNat_natCast]; omega, ?_⟩
            simp -implicitDefEqProofs only [push_cast, ↓reduceIte, Nat.reduceEqDiff, Nat.reduceAdd, Nat.reduceMul, Nat.reduceSub, Nat.reduceLeDiff, Nat.reduceLT, reduceCtorEq, Tryd.f38, hst, atL_all]
            exact hkE aN cN _ (Fact.to_left (Fact.to_refl _)) hcN (Fact.to_right (Fact.to_refl _))
            -- END
        intro aN2 cN2 F4 hto4 hcN2 hrN2
        refine hK12 _ ?_
        clear hK12
        refine SC.seqN [1, 3, 5, 8, 9, 10] [.l 3, .l 5, .l 34, .l 8, .l 10, .l 11] fun K17 hK17 => ?_
        refine SC.seqN [1, 3, 5, 8, 9, 77] [.l 3, .l 5, .l 34, .l 8, .l 10, .l 11] fun K18 hK18 => SC.region ?_
        simp -implicitDefEqProofs only [push_cast, ↓reduceIte, Nat.reduceEqDiff, Nat.reduceAdd, Nat.reduceMul, Nat.reduceSub, Nat.reduceLeDiff, Nat.reduceLT, reduceCtorEq]
        refine loadAt (Fact.to_trans hto4 hb10) ?_
        simp -implicitDefEqProofs only [push_cast, ↓reduceIte, Nat.reduceEqDiff, Nat.reduceAdd, Nat.reduceMul, Nat.reduceSub, Nat.reduceLeDiff, Nat.reduceLT, reduceCtorEq]
        refine hK18 _ ?_
        clear hK18
        refine SC.region ?_
        simp -implicitDefEqProofs only [push_cast, ↓reduceIte, Nat.reduceEqDiff, Nat.reduceAdd, Nat.reduceMul, Nat.reduceSub, Nat.reduceLeDiff, Nat.reduceLT, reduceCtorEq]
        refine hK17 _ ?_
        clear hK17
        refine SC.region ?_
        simp -implicitDefEqProofs only [push_cast, ↓reduceIte, Nat.reduceEqDiff, Nat.reduceAdd, Nat.reduceMul, Nat.reduceSub, Nat.reduceLeDiff, Nat.reduceLT, reduceCtorEq]
        refine ⟨by omega, ?_⟩
        refine ⟨⟨outs ++ [rowOf (delayA outs ps ds outs.length) l.length], upA aa outs.length aN2, upA cc outs.length cN2, F4⟩, ?_, by simp; omega, Le.trans (Le.norm _ [1, 3, 5, 8, 9, 10] [.l 34, .l 8, .l 10]) ?_⟩
        · have hl1 : (outs ++ [rowOf (delayA outs ps ds outs.length) l.length]).length = outs.length + 1 := by simp
          refine ⟨by rw [hl1]; omega, by rw [hl1]; omega, ?_, Fact.to_trans hto4 hto31, ?_, ?_, ?_⟩
          · rw [hl1]
            simp only [spreadRows]
            rw [← hsr, if_neg (by omega)]
          · intro i l' hl'
            rcases Nat.lt_or_ge i outs.length with hi | hi
            · rw [List.getElem?_append_left hi] at hl'
              have := hro i l' hl'
              have hA1 : upA aa outs.length aN2 i = aa i := upA_ne (by omega)
              have hC1 : upA cc outs.length cN2 i = cc i := upA_ne (by omega)
              exact ⟨by show l'.length ≤ upA cc outs.length cN2 i; rw [hC1]; exact this.1, by show F4.to (rowF (upA aa outs.length aN2 i) (ints l')); rw [hA1]; exact Fact.to_trans hto4 (Fact.to_trans hto3 this.2)⟩
            · rw [List.getElem?_append_right hi] at hl'
              have h0 : i - outs.length = 0 := by have := (List.getElem?_eq_some_iff.1 hl').1; simp at this; omega
              have hie : i = outs.length := by omega
              subst hie
              simp only [Nat.sub_self, List.getElem?_cons_zero, Option.some.injEq] at hl'
              subst hl'
              exact ⟨by show (rowOf _ _).length ≤ upA cc outs.length cN2 outs.length; rw [upA_same, rowOf_length]; exact hcN2, by show F4.to (rowF (upA aa outs.length aN2 outs.length) _); rw [upA_same]; exact hrN2⟩
          · intro j hj1 hj2
            rw [hl1] at hj2
            rcases Nat.lt_succ_iff_lt_or_eq.1 hj2 with hj | rfl
            · exact hbk j hj1 hj
            · exact h3
          · show rowsBd (outs ++ [rowOf (delayA outs ps ds outs.length) l.length])
            intro j row x hj hx
            rcases Nat.lt_or_ge j outs.length with hi | hi
            · rw [List.getElem?_append_left hi] at hj
              exact hrb j row x hj hx
            · rw [List.getElem?_append_right hi] at hj
              have h0 : j - outs.length = 0 := by have := (List.getElem?_eq_some_iff.1 hj).1; simp at this; omega
              have hie : j = outs.length := by omega
              subst hie
              simp only [Nat.sub_self, List.getElem?_cons_zero, Option.some.injEq] at hj
              subst hj
              obtain ⟨i, hi2, rfl⟩ := List.mem_map.1 hx
              exact runMax_bd (n := l.length) hbd1 i (List.mem_range.1 hi2)
        · simp -implicitDefEqProofs only [push_cast, ↓reduceIte, Nat.reduceEqDiff, Nat.reduceAdd, Nat.reduceMul, Nat.reduceSub, Nat.reduceLeDiff, Nat.reduceLT, reduceCtorEq]
          rw [show (((outs ++ [rowOf (delayA outs ps ds outs.length) l.length]).length : Nat) : Int) = (outs.length : Int) + 1 by simp]
          exact Le.refl _
    · skip
      refine SC.exit ?_
      simp -implicitDefEqProofs only [push_cast, ↓reduceIte, Nat.reduceEqDiff, Nat.reduceAdd, Nat.reduceMul, Nat.reduceSub, Nat.reduceLeDiff, Nat.reduceLT, reduceCtorEq]
      refine hK8 _ ?_
      clear hK8
      refine SC.seqN [6, 7] [.l 3, .l 5, .l 34, .l 8, .l 10, .l 11] fun K19 hK19 => SC.region ?_
      simp -implicitDefEqProofs only [push_cast, ↓reduceIte, Nat.reduceEqDiff, Nat.reduceAdd, Nat.reduceMul, Nat.reduceSub, Nat.reduceLeDiff, Nat.reduceLT, reduceCtorEq]
      refine hK19 _ ?_
      clear hK19
      have hkn : outs.length = ps.length := by omega
      rw [outXs_all hkn]
      refine SC.frzRow (k := .l 34) rfl (by rw [slcs_length, hkn, Nat.mul_one]) fun aO bO cO hcO => ?_
      simp -implicitDefEqProofs only [push_cast, ↓reduceIte, Nat.reduceEqDiff, Nat.reduceAdd, Nat.reduceMul, Nat.reduceSub, Nat.reduceLeDiff, Nat.reduceLT, reduceCtorEq]
      refine SC.ret ?_
      simp -implicitDefEqProofs only [push_cast, ↓reduceIte, Nat.reduceEqDiff, Nat.reduceAdd, Nat.reduceMul, Nat.reduceSub, Nat.reduceLeDiff, Nat.reduceLT, reduceCtorEq, Tryd.f17]
      have hb : spreadBad l ps ds = false := by
        simp only [spreadBad, h1, Bool.false_or, List.any_eq_false, List.mem_range]
        intro j hj
        by_cases h0 : 1 ≤ j
        · simp [hbk j h0 (by omega)]
        · simp [h0]
      refine ⟨_, by rw [spreadE, if_neg (by simp [hb])], ?_⟩
      rw [spreadR, if_neg (by simp [hb]), ← hkn, ← hsr]
      exact ⟨aO, cO, aa, cc, by rw [hkn], by omega, Fact.to_right (Fact.to_refl _), hro.to (Fact.to_left (Fact.to_refl _))⟩
end Go.Proofs.YtmamodnpghlgcaaDoor
/- The specification's tree. -/

set_option linter.unusedSimpArgs false
set_option linter.unusedVariables false
set_option maxRecDepth 100000
set_option maxHeartbeats 4000000
namespace Go.Proofs.YtmamodnpghlgcaaDoor
open Go.RowKit
def treeT (ps : List Int) (ds : List (List Int)) : Bool := decide (ps.length < 1) || (decide (100 < ps.length) || decide (ds.length ≠ ps.length))
def treeBad (n : Nat) (ps : List Int) (ds : List (List Int)) : Bool := treeT ps ds || (List.range ps.length).any fun k => decide (1 ≤ k) && badK ps ds n k
theorem spreadBad_eq (l : List Seg) (ps : List Int) (ds : List (List Int)) : spreadBad l ps ds = (!streamB l || treeBad l.length ps ds) := by
  simp only [spreadBad, badTop, treeBad, treeT, Bool.or_assoc]
def badK0 (p : Int) (d : List Int) (n k : Nat) : Bool := decide (p < 0) || (decide ((k : Int) ≤ p) || decide (d.length ≠ n))
theorem treeBad_at {n : Nat} {ps : List Int} {ds : List (List Int)} {k : Nat} (hk : k < ps.length) (h1 : 1 ≤ k) (hb : badK ps ds n k = true) : treeBad n ps ds = true := by
  simp only [treeBad, Bool.or_eq_true]
  exact .inr (List.any_eq_true.2 ⟨k, List.mem_range.2 hk, by simp [h1, hb]⟩)
end Go.Proofs.YtmamodnpghlgcaaDoor
/- The specification's Spread. -/

set_option linter.unusedSimpArgs false
set_option linter.unusedVariables false
set_option maxRecDepth 100000
set_option maxHeartbeats 4000000
namespace Go.Proofs.YtmamodnpghlgcaaDoor
open Go.RowKit
theorem slcs_snoc {aa aa' : Nat → Option Addr} {cc cc' : Nat → Nat} {outs : List (List Int)} {row : List Int} {m : Nat} {a : Option Addr} {c : Nat} (h : ∀ i, i < outs.length → aa' i = aa i ∧ cc' i = cc i) (ha : aa' outs.length = a) (hc : cc' outs.length = c) (hm : row.length = m) :
    slcs aa' cc' (outs ++ [row]) = slcs aa cc outs ++ [.slice a m c] := by
  unfold slcs
  rw [List.mapIdx_append]
  congr 1
  · apply List.ext_getElem
    · simp
    · intro i h1 h2
      have hi : i < outs.length := by simpa using h1
      simp [h i hi]
  · simp [ha, hc, hm]
theorem one1 {v : Value} (h : v.oneCell' = true) : ∀ y ∈ [v], y.oneCell' = true := fun y hy => by rw [List.mem_singleton] at hy; subst hy; exact h
theorem rowOf_succ (f : Nat → Int) (i : Nat) : ints (rowOf f (i + 1)) = ints (rowOf f i) ++ [.int .i64 (runMax f i)] := by simp [rowOf, ints, List.range_succ]
theorem rowOf_get (f : Nat → Int) {i j : Nat} (h : j < i) : (rowOf f i)[j]? = some (runMax f j) := by simp [rowOf, h]
def isTimes (rows : List (List Int)) (e : Int) (G : Fact) (v : Value) : Prop := ∃ ov, v = .agg #[ov, .int .i64 e] ∧ isIntss rows G ov
end Go.Proofs.YtmamodnpghlgcaaDoor
/- Texts; decimal, digit, hex of the specification. -/

set_option linter.unusedSimpArgs false
set_option linter.unusedVariables false
set_option maxRecDepth 100000
set_option maxHeartbeats 4000000
namespace Go.Proofs.YtmamodnpghlgcaaDoor
open Go.RowKit
/-- A text of these bytes. -/
def tx (l : List UInt8) : ByteArray := ⟨l.toArray⟩
theorem tx_size (l : List UInt8) : (tx l).size = l.length := by simp [tx, ByteArray.size]
theorem tx_append (a b : List UInt8) : tx a ++ tx b = tx (a ++ b) := by
  apply ByteArray.ext
  simp [tx]
theorem tx_of (b : ByteArray) : tx b.data.toList = b := by
  cases b; simp [tx]
theorem tx_inj {a b : List UInt8} : tx a = tx b ↔ a = b := by
  constructor
  · intro h
    have := congrArg (fun x => x.data.toList) h
    simpa [tx] using this
  · rintro rfl; rfl
theorem bstr_tx (ns : List Int) : bstr ns = tx (ns.map fun n => UInt8.ofNat n.toNat) := rfl
theorem mk_tx (l : List UInt8) : (⟨⟨l⟩⟩ : ByteArray) = tx l := rfl
def dec (n : Int) : List UInt8 := Lib.decDigits n.toNat
theorem dec_small {n : Int} (h0 : 0 ≤ n) (h : n < 10) : dec n = [UInt8.ofNat (48 + n).toNat] := by
  unfold dec
  rw [Lib.decDigits, dif_pos (by omega)]
  congr 2
  omega
theorem dec_big {n : Int} (h : 10 ≤ n) : dec n = dec (n / 10) ++ [UInt8.ofNat (48 + n % 10).toNat] := by
  unfold dec
  rw [Lib.decDigits, dif_neg (by omega)]
  congr 3
  · omega
  · omega
theorem decD_len : ∀ k u, u < 10 ^ (k + 1) → (Lib.decDigits u).length ≤ k + 1
  | 0, u, h => by rw [Lib.decDigits, dif_pos (by simpa using h)]; simp
  | k + 1, u, h => by
    rw [Lib.decDigits]
    split
    · simp
    · have := decD_len k (u / 10) (by rw [Nat.pow_succ] at h; omega)
      simp only [List.length_append, List.length_singleton]
      omega
theorem dec_len {n : Int} (h : n ≤ 9223372036854775807) : (dec n).length ≤ 19 := decD_len 18 _ (by omega)
theorem dec_ne (n : Int) : dec n ≠ [] := by
  unfold dec
  rw [Lib.decDigits]
  split
  · simp
  · simp
def hexd (n : Int) : UInt8 := UInt8.ofNat (if n < 10 then 48 + n else 87 + n).toNat
def dgs (f : Nat → Int) : List Value := [.int .u8 (f 0), .int .u8 (f 1), .int .u8 (f 2), .int .u8 (f 3), .int .u8 (f 4), .int .u8 (f 5), .int .u8 (f 6), .int .u8 (f 7), .int .u8 (f 8), .int .u8 (f 9), .int .u8 (f 10), .int .u8 (f 11), .int .u8 (f 12), .int .u8 (f 13), .int .u8 (f 14), .int .u8 (f 15)]
theorem idx_body (f : Nat → Int) {i : Nat} (h : i < 16) : idx [SV.v (.int .u8 (f 0)), SV.v (.int .u8 (f 1)), SV.v (.int .u8 (f 2)), SV.v (.int .u8 (f 3)), SV.v (.int .u8 (f 4)), SV.v (.int .u8 (f 5)), SV.v (.int .u8 (f 6)), SV.v (.int .u8 (f 7)), SV.v (.int .u8 (f 8)), SV.v (.int .u8 (f 9)), SV.v (.int .u8 (f 10)), SV.v (.int .u8 (f 11)), SV.v (.int .u8 (f 12)), SV.v (.int .u8 (f 13)), SV.v (.int .u8 (f 14)), SV.v (.int .u8 (f 15))] i = some (.v (.int .u8 (f i))) := by
  have : i = 0 ∨ i = 1 ∨ i = 2 ∨ i = 3 ∨ i = 4 ∨ i = 5 ∨ i = 6 ∨ i = 7 ∨ i = 8 ∨ i = 9 ∨ i = 10 ∨ i = 11 ∨ i = 12 ∨ i = 13 ∨ i = 14 ∨ i = 15 := by omega
  rcases this with rfl|rfl|rfl|rfl|rfl|rfl|rfl|rfl|rfl|rfl|rfl|rfl|rfl|rfl|rfl|rfl <;> rfl
def hexL (f : Nat → Int) : Nat → List UInt8
  | 0 => []
  | i + 1 => hexL f i ++ [hexd (f i / 16), hexd (f i % 16)]
theorem hexL_len (f : Nat → Int) (n : Nat) : (hexL f n).length = 2 * n := by
  induction n with
  | zero => rfl
  | succ n ih => simp only [hexL, List.length_append, ih, List.length_cons, List.length_nil]; omega
def hexT (f : Nat → Int) : List UInt8 := hexL f 16
end Go.Proofs.YtmamodnpghlgcaaDoor
/- The specification's Text. -/

set_option linter.unusedSimpArgs false
set_option linter.unusedVariables false
set_option maxRecDepth 100000
set_option maxHeartbeats 4000000
namespace Go.Proofs.YtmamodnpghlgcaaDoor
open Go.RowKit
/-- A digest out of a row of segments. -/
theorem loadDg {n : Nat} {F : Fact} {a : Option Addr} {l : List Seg} {k : SV → Prop} {j : Int} {o : Nat} (i : Nat) {s : Seg} (h : F.to (rowF a (segsC l))) (hi : l[i]? = some s) (hj : j = (i : Int)) (hn : n = 16) (ho : o = 3) (hk : k (.v (.agg (dgs s.body).toArray))) : loadF (some (true, n)) F (((a.getD default).add (j.toNat * 20)).add o) k := by
  subst hj
  subst ho
  rw [Int.toNat_natCast, Addr.add_add]
  refine loadF_agg (dgs s.body) h (by rw [hn]; rfl) (by omega) (fun j v hv => ?_) hk
  have := segsC_get hi (3 + j) v ?_
  · rwa [← Nat.add_assoc] at this
  · have hj : j < 16 := by have := (List.getElem?_eq_some_iff.1 hv).1; exact this
    have h3 : segC s = [.int .i64 s.num, .int .i64 s.beg, .int .i64 s.len] ++ (dgs s.body ++ [.int .i64 s.size]) := rfl
    rw [h3, List.getElem?_append_right (by simp), List.getElem?_append_left (by show _ < 16; simp; omega)]
    simpa using hv
def Seg.BOk (s : Seg) : Prop := ∀ i, i < 16 → 0 ≤ s.body i ∧ s.body i ≤ 255
def segT (s : Seg) : List UInt8 := dec s.beg ++ [32] ++ dec s.len ++ [32] ++ dec s.size ++ [32] ++ hexT s.body
def rowsT (l : List Seg) : List UInt8 := l.flatMap fun s => segT s ++ [10]
def liveT : List UInt8 := [108, 105, 118, 101, 32]
def doneT : List UInt8 := [100, 111, 110, 101]
def headT (p : Pl) : List UInt8 := liveT ++ dec p.first
def textT (p : Pl) : List UInt8 := headT p ++ [10] ++ rowsT p.l ++ if p.done then doneT ++ [10] else []
def textB (p : Pl) : List UInt8 := if validB p then textT p else []
def textE (p : Pl) : Int := if validB p then 0 else 3
theorem rowsT_succ {l : List Seg} {i : Nat} {s : Seg} (h : l[i]? = some s) : rowsT (l.take (i + 1)) = rowsT (l.take i) ++ (segT s ++ [10]) := by
  unfold rowsT
  rw [List.take_add_one, h]
  simp [List.flatMap_append]
theorem segT_len {s : Seg} (h1 : s.beg ≤ 9223372036854775807) (h2 : s.len ≤ 9223372036854775807) (h3 : s.size ≤ 9223372036854775807) : (segT s).length ≤ 92 := by
  have := dec_len h1
  have := dec_len h2
  have := dec_len h3
  have : (hexT s.body).length = 32 := hexL_len _ 16
  simp only [segT, List.length_append, List.length_singleton]
  omega
theorem rowsT_len : ∀ {l : List Seg}, (∀ s ∈ l, (segT s).length ≤ 92) → (rowsT l).length ≤ 93 * l.length
  | [], _ => by simp [rowsT]
  | s :: l, h => by
    have h1 := rowsT_len fun x hx => h x (List.mem_cons_of_mem _ hx)
    have h2 := h s (List.mem_cons_self ..)
    have h3 : rowsT (s :: l) = (segT s ++ [10]) ++ rowsT l := rfl
    rw [h3]
    simp only [List.length_append, List.length_cons, List.length_nil]
    omega
theorem valid_seg {p : Pl} (h : validB p = true) : ∀ s ∈ p.l, rightB s = true := by
  intro s hs
  simp only [validB, Bool.and_eq_true] at h
  obtain ⟨i, hi, rfl⟩ := List.getElem_of_mem hs
  have h2 := h.2
  simp only [streamB, Bool.and_eq_true, List.all_eq_true, List.mem_range] at h2
  exact okB_get hi (h2.1 i hi)
theorem right_bd {s : Seg} (h : rightB s = true) : (0 ≤ s.num ∧ s.num ≤ 1099511627776) ∧ (0 ≤ s.beg ∧ s.beg ≤ 1099511627776) ∧ (1 ≤ s.len ∧ s.len ≤ 60000) ∧ (0 ≤ s.size ∧ s.size ≤ 1099511627776) := by
  simp only [rightB, Bool.and_eq_true, decide_eq_true_eq] at h
  omega
theorem valid_bd {p : Pl} (h : validB p = true) : 0 ≤ p.first ∧ p.first ≤ 1099511627776 ∧ p.l.length ≤ 100 := by
  simp only [validB, Bool.and_eq_true, decide_eq_true_eq] at h
  omega
end Go.Proofs.YtmamodnpghlgcaaDoor
/- Lists of texts; split, number, value of the specification. -/

set_option linter.unusedSimpArgs false
set_option linter.unusedVariables false
set_option maxRecDepth 100000
set_option maxHeartbeats 4000000
namespace Go.Proofs.YtmamodnpghlgcaaDoor
open Go.RowKit
def strs (l : List (List UInt8)) : List Value := l.map fun x => Value.string (tx x)
theorem strs_length (l : List (List UInt8)) : (strs l).length = l.length := by simp [strs]
theorem strs_ne {l : List (List UInt8)} (h : 0 < l.length) : strs l ≠ [] := by intro hn; have := strs_length l; rw [hn] at this; simp at this; omega
theorem strs_snoc (l : List (List UInt8)) (x : List UInt8) : strs (l ++ [x]) = strs l ++ [.string (tx x)] := by simp [strs]
theorem loadStr {n : Nat} {F : Fact} {a : Option Addr} {l : List (List UInt8)} {k : SV → Prop} {j : Int} (i : Nat) {x : List UInt8} (h : F.to (rowF a (strs l))) (hi : l[i]? = some x) (hj : j = (i : Int)) (hk : k (.v (.string (tx x)))) : loadF (some (false, n)) F ((a.getD default).add (j.toNat * 1)) k := by
  subst hj
  rw [Int.toNat_natCast, Nat.mul_one]
  exact loadF_one (.string (tx x)) h (by simp [strs, hi]) hk
def isStrs (l : List (List UInt8)) (F : Fact) (v : Value) : Prop := ∃ a c, v = .slice a l.length c ∧ l.length ≤ c ∧ F.to (rowF a (strs l))
def glue (p : List UInt8) : List (List UInt8) → List (List UInt8)
  | [] => [p]
  | h :: t => (p ++ h) :: t
/-- The parts of a text that a byte ends, or lies between. -/
def spl (b : UInt8) : List UInt8 → List (List UInt8)
  | [] => [[]]
  | x :: l => if x = b then [] :: spl b l else glue [x] (spl b l)
theorem spl_ne (b : UInt8) (l : List UInt8) : spl b l ≠ [] := by
  cases l with
  | nil => simp [spl]
  | cons x l =>
    simp only [spl]
    split
    · simp
    · cases spl b l <;> simp [glue]
theorem glue_glue (p q : List UInt8) (l : List (List UInt8)) : glue p (glue q l) = glue (p ++ q) l := by
  cases l <;> simp [glue]
theorem glue_nil {l : List (List UInt8)} (h : l ≠ []) : glue [] l = l := by cases l <;> simp_all [glue]
theorem spl_length (b : UInt8) (l : List UInt8) : (spl b l).length ≤ l.length + 1 := by
  induction l with
  | nil => simp [spl]
  | cons x l ih =>
    simp only [spl]
    split
    · simp only [List.length_cons]; omega
    · cases h : spl b l with
      | nil => simp [glue]
      | cons y t => rw [h] at ih; simp only [glue, List.length_cons] at ih ⊢; omega
theorem tx_byt (l : List UInt8) {i : Nat} (h : i < l.length) : byt (tx l) i = ((l[i]'h).toNat : Int) := by
  simp [byt, tx, List.getD_eq_getElem?_getD, List.getElem?_eq_getElem h]
theorem tx_ext (l : List UInt8) (i j : Nat) : (tx l).extract i j = tx ((l.take j).drop i) := by
  apply ByteArray.ext
  simp [tx, ByteArray.data_extract, List.extract_toArray]
  exact (List.drop_take ..).symm
theorem spl_step {b : UInt8} {l : List UInt8} {i : Nat} (h : i < l.length) : spl b (l.drop i) = if l[i] = b then [] :: spl b (l.drop (i + 1)) else glue [l[i]] (spl b (l.drop (i + 1))) := by
  rw [List.drop_eq_getElem_cons h]
  rfl
theorem take_drop_step {l : List UInt8} {fr i : Nat} (h : i < l.length) (hf : fr ≤ i) : (l.take i).drop fr ++ [l[i]] = (l.take (i + 1)).drop fr := by
  rw [List.take_succ_eq_append_getElem h, List.drop_append_of_le_length (by rw [List.length_take]; omega)]
end Go.Proofs.YtmamodnpghlgcaaDoor
/- number, value of the specification. -/

set_option linter.unusedSimpArgs false
set_option linter.unusedVariables false
set_option maxRecDepth 100000
set_option maxHeartbeats 4000000
namespace Go.Proofs.YtmamodnpghlgcaaDoor
open Go.RowKit
def badC (x : UInt8) (n : Int) : Bool := decide (x.toNat < 48) || decide (57 < x.toNat) || decide (1125899906842624 ≤ n)
def numG : Int → List UInt8 → Option Int
  | n, [] => some n
  | n, x :: l => if badC x n then none else numG (10 * n + ((x.toNat : Int) - 48)) l
def numL (l : List UInt8) : Int := match numG 0 l with | none => -1 | some n => if dec n = l then n else -1
theorem numG_step {n : Int} {l : List UInt8} {i : Nat} (h : i < l.length) : numG n (l.drop i) = if badC l[i] n then none else numG (10 * n + ((l[i].toNat : Int) - 48)) (l.drop (i + 1)) := by
  rw [List.drop_eq_getElem_cons h]
  rfl
def valL (x : Int) : Int := if 48 ≤ x ∧ x ≤ 57 then x - 48 else if 97 ≤ x ∧ x ≤ 102 then x - 97 + 10 else -1
end Go.Proofs.YtmamodnpghlgcaaDoor
/- line of the specification. -/

set_option linter.unusedSimpArgs false
set_option linter.unusedVariables false
set_option maxRecDepth 100000
set_option maxHeartbeats 4000000
namespace Go.Proofs.YtmamodnpghlgcaaDoor
open Go.RowKit
def badS : Seg := ⟨0, -1, 0, fun _ => 0, 0⟩
def byV (h : List UInt8) (j : Nat) : Int := ((h.getD j 0).toNat : Int)
def bodyV (h : List UInt8) (i : Nat) : Int := 16 * valL (byV h (2 * i)) + valL (byV h (2 * i + 1))
def badV (h : List UInt8) (i : Nat) : Bool := decide (valL (byV h (2 * i)) < 0) || decide (valL (byV h (2 * i + 1)) < 0)
def lineP (pa pb pc ph : List UInt8) : Seg := if (List.range 16).any (badV ph) then badS else ⟨0, numL pa, numL pb, bodyV ph, numL pc⟩
def lineQ : List (List UInt8) → Seg
  | [pa, pb, pc, ph] => if ph.length = 32 then lineP pa pb pc ph else badS
  | _ => badS
/-- The segment of a line. -/
def lineL (l : List UInt8) : Seg := lineQ (spl 32 l)
theorem valL_bd (x : Int) : -1 ≤ valL x ∧ valL x ≤ 15 := by unfold valL; split <;> (try split) <;> omega
theorem byV_bd (h : List UInt8) (j : Nat) : 0 ≤ byV h j ∧ byV h j ≤ 255 := by
  unfold byV
  have := UInt8.toNat_lt (h.getD j 0)
  omega
def partV (h : List UInt8) (i j : Nat) : Int := if j < i then bodyV h j else 0
theorem partV_zero (h : List UInt8) (j : Nat) : partV h 0 j = 0 := rfl
theorem partV_full (h : List UInt8) {j : Nat} (hj : j < 16) : partV h 16 j = bodyV h j := by unfold partV; rw [if_pos hj]
theorem partV_set (h : List UInt8) (n0 n1 n2 n3 : Int) {i : Nat} (hi : i < 16) : ([SV.v (.int .i64 n0), SV.v (.int .i64 n1), SV.v (.int .i64 n2), SV.v (.int .u8 (partV h i 0)), SV.v (.int .u8 (partV h i 1)), SV.v (.int .u8 (partV h i 2)), SV.v (.int .u8 (partV h i 3)), SV.v (.int .u8 (partV h i 4)), SV.v (.int .u8 (partV h i 5)), SV.v (.int .u8 (partV h i 6)), SV.v (.int .u8 (partV h i 7)), SV.v (.int .u8 (partV h i 8)), SV.v (.int .u8 (partV h i 9)), SV.v (.int .u8 (partV h i 10)), SV.v (.int .u8 (partV h i 11)), SV.v (.int .u8 (partV h i 12)), SV.v (.int .u8 (partV h i 13)), SV.v (.int .u8 (partV h i 14)), SV.v (.int .u8 (partV h i 15)), SV.v (.int .i64 n3)]).set (3 + i) (.v (.int .u8 (bodyV h i))) = [SV.v (.int .i64 n0), SV.v (.int .i64 n1), SV.v (.int .i64 n2), SV.v (.int .u8 (partV h (i + 1) 0)), SV.v (.int .u8 (partV h (i + 1) 1)), SV.v (.int .u8 (partV h (i + 1) 2)), SV.v (.int .u8 (partV h (i + 1) 3)), SV.v (.int .u8 (partV h (i + 1) 4)), SV.v (.int .u8 (partV h (i + 1) 5)), SV.v (.int .u8 (partV h (i + 1) 6)), SV.v (.int .u8 (partV h (i + 1) 7)), SV.v (.int .u8 (partV h (i + 1) 8)), SV.v (.int .u8 (partV h (i + 1) 9)), SV.v (.int .u8 (partV h (i + 1) 10)), SV.v (.int .u8 (partV h (i + 1) 11)), SV.v (.int .u8 (partV h (i + 1) 12)), SV.v (.int .u8 (partV h (i + 1) 13)), SV.v (.int .u8 (partV h (i + 1) 14)), SV.v (.int .u8 (partV h (i + 1) 15)), SV.v (.int .i64 n3)] := by
  have : i = 0 ∨ i = 1 ∨ i = 2 ∨ i = 3 ∨ i = 4 ∨ i = 5 ∨ i = 6 ∨ i = 7 ∨ i = 8 ∨ i = 9 ∨ i = 10 ∨ i = 11 ∨ i = 12 ∨ i = 13 ∨ i = 14 ∨ i = 15 := by omega
  rcases this with rfl|rfl|rfl|rfl|rfl|rfl|rfl|rfl|rfl|rfl|rfl|rfl|rfl|rfl|rfl|rfl <;> simp [partV]
theorem tx_byV (l : List UInt8) {j : Nat} (h : j < l.length) : byt (tx l) j = byV l j := by
  rw [tx_byt l h]
  simp [byV, List.getD_eq_getElem?_getD, List.getElem?_eq_getElem h]
theorem lineQ_len {l : List (List UInt8)} (h : l.length ≠ 4) : lineQ l = badS := by
  unfold lineQ
  split
  · exact absurd rfl h
  · rfl
theorem lineQ_four (pa pb pc ph : List UInt8) : lineQ [pa, pb, pc, ph] = if ph.length = 32 then lineP pa pb pc ph else badS := rfl
theorem spl_part_len {b : UInt8} {l : List UInt8} : ∀ p ∈ spl b l, p.length ≤ l.length := by
  induction l with
  | nil => intro p hp; simp [spl] at hp; subst hp; exact Nat.le_refl _
  | cons x l ih =>
    intro p hp
    simp only [spl] at hp
    split at hp
    · rcases List.mem_cons.1 hp with rfl | hp
      · exact Nat.zero_le _
      · have := ih p hp; simp only [List.length_cons]; omega
    · cases h : spl b l with
      | nil => exact absurd h (spl_ne b l)
      | cons y t =>
        rw [h] at hp ih
        simp only [glue, List.singleton_append] at hp
        rcases List.mem_cons.1 hp with rfl | hp
        · have := ih y (List.mem_cons_self ..); simp only [List.length_cons]; omega
        · have := ih p (List.mem_cons_of_mem _ hp); simp only [List.length_cons]; omega
end Go.Proofs.YtmamodnpghlgcaaDoor
/- The specification's Parse. -/

set_option linter.unusedSimpArgs false
set_option linter.unusedVariables false
set_option maxRecDepth 100000
set_option maxHeartbeats 4000000
namespace Go.Proofs.YtmamodnpghlgcaaDoor
open Go.RowKit
theorem numG_bd : ∀ {l : List UInt8} {n m : Int}, 0 ≤ n → n ≤ 11258999068426250 → numG n l = some m → 0 ≤ m ∧ m ≤ 11258999068426250
  | [], n, m, h0, h1, h => by simp [numG] at h; omega
  | x :: l, n, m, h0, h1, h => by
    simp only [numG] at h
    split at h
    · cases h
    · rename_i hb
      simp only [badC, Bool.or_eq_true, decide_eq_true_eq, not_or] at hb
      exact numG_bd (by omega) (by omega) h
theorem numL_bd (l : List UInt8) : -1 ≤ numL l ∧ numL l ≤ 11258999068426250 := by
  unfold numL
  cases h : numG 0 l with
  | none => simp
  | some n =>
    have := numG_bd (Int.le_refl 0) (by decide) h
    simp only
    split <;> omega
def numS (s : Seg) (n : Int) : Seg := { s with num := n }
def segsR (f : Int) (q : List (List UInt8)) : List Seg := q.mapIdx fun i x => numS (lineL x) (f + i)
theorem segsR_len (f : Int) (q : List (List UInt8)) : (segsR f q).length = q.length := by simp [segsR]
theorem segsR_succ (f : Int) {q : List (List UInt8)} {j : Nat} {x : List UInt8} (h : q[j]? = some x) : segsR f (q.take (j + 1)) = segsR f (q.take j) ++ [numS (lineL x) (f + j)] := by
  have hj := (List.getElem?_eq_some_iff.1 h).1
  unfold segsR
  rw [List.take_add_one, h, List.mapIdx_append]
  have : (q.take j).length = j := by rw [List.length_take]; omega
  simp [this]
def readP (f : Int) (q : List (List UInt8)) (d : Bool) : Pl × Int := if validB ⟨f, segsR f q, d⟩ then (⟨f, segsR f q, d⟩, 0) else (pl0, 3)
/-- Whether the last line says that it is done. -/
def isD (t : List (List UInt8)) : Bool := decide (t.getLast? = some doneT)
def readQ : List (List UInt8) → Pl × Int
  | [] => (pl0, 3)
  | h :: t => if h.length < 6 ∨ h.take 5 ≠ liveT then (pl0, 3) else readP (numL (h.drop 5)) (if isD t then t.dropLast else t) (isD t)
def parseR (l : List UInt8) : Pl × Int :=
  if 65536 < l.length then (pl0, 2) else if (spl 10 l).length < 2 ∨ (spl 10 l).getLast? ≠ some [] then (pl0, 3) else readQ (spl 10 l).dropLast
theorem slA_zero (a : Option Addr) (c z : Nat) : slA a 0 c z = a := by
  unfold slA
  split
  · rfl
  · cases a <;> simp [Addr.add]
theorem two_ends {A : Type} {l : List A} (h : 2 ≤ l.length) : ∃ x t z, l = x :: (t ++ [z]) := by
  cases l with
  | nil => simp at h
  | cons x l =>
    have hl : l ≠ [] := by rintro rfl; simp at h
    exact ⟨x, l.dropLast, l.getLast hl, by rw [List.dropLast_concat_getLast]⟩
theorem readQ_cons (h : List UInt8) (t : List (List UInt8)) : readQ (h :: t) = if h.length < 6 ∨ h.take 5 ≠ liveT then (pl0, 3) else readP (numL (h.drop 5)) (if isD t then t.dropLast else t) (isD t) := rfl
theorem tx_live (h : List UInt8) : (tx h).extract 0 (Int.toNat 5) = ⟨#[108, 105, 118, 101, 32]⟩ ↔ h.take 5 = liveT := by
  rw [tx_ext, show (⟨#[108, 105, 118, 101, 32]⟩ : ByteArray) = tx liveT from rfl, tx_inj]
  rfl
theorem parse_bad1 {l : List UInt8} {q : List (List UInt8)} (hq : spl 10 l = q) (hl : l.length ≤ 65536) (h : q.length < 2) : parseR l = (pl0, 3) := by
  unfold parseR
  rw [hq, if_neg (by omega), if_pos (.inl h)]
theorem parse_bad2 {l : List UInt8} {h z : List UInt8} {t : List (List UInt8)} (hq : spl 10 l = h :: (t ++ [z])) (hl : l.length ≤ 65536) (hb : z ≠ [] ∨ h.length < 6 ∨ h.take 5 ≠ liveT) : parseR l = (pl0, 3) := by
  have h9 : (h :: (t ++ [z])).getLast? = some z := by rw [← List.cons_append, List.getLast?_concat]
  have h8 : (h :: (t ++ [z])).dropLast = h :: t := by rw [← List.cons_append, List.dropLast_concat]
  unfold parseR
  rw [hq, if_neg (by omega), h9, h8]
  by_cases hz : z = []
  · rw [readQ_cons, if_pos (c := h.length < 6 ∨ _) (hb.resolve_left (not_not_intro hz)), ite_self]
  · rw [if_pos (.inr (by simpa using hz))]
theorem parse_good {l : List UInt8} {h : List UInt8} {t : List (List UInt8)} (hq : spl 10 l = h :: (t ++ [[]])) (hl : l.length ≤ 65536) (h6 : 6 ≤ h.length) (h5 : h.take 5 = liveT) : parseR l = readP (numL (h.drop 5)) (if isD t then t.dropLast else t) (isD t) := by
  have h9 : (h :: (t ++ [[]])).getLast? = some [] := by rw [← List.cons_append, List.getLast?_concat]
  have h8 : (h :: (t ++ [[]])).dropLast = h :: t := by rw [← List.cons_append, List.dropLast_concat]
  unfold parseR
  rw [hq, if_neg (by omega), h9, h8, if_neg (by simp), readQ_cons, if_neg]
  rintro (h7 | h7)
  · omega
  · exact h7 h5
theorem strs_take (l : List (List UInt8)) (n : Nat) : (strs l).take n = strs (l.take n) := by simp [strs]
end Go.Proofs.YtmamodnpghlgcaaDoor
/- Regions in parts; functions that defer a closure, which may recover. -/
set_option linter.unusedVariables false
set_option linter.unusedSimpArgs false
namespace Go.Proofs.YtmamodnpghlgcaaDoor
open Go.RowKit

theorem wp_mono3 {P : Program} {o : Oper} {a : Act} {w : World} {K K' : Act → World → Prop} {Q Q' : Exit → Act → World → Prop} (h : ∀ a w, K a w → K' a w) (hq : ∀ c a w, Q (.panic c) a w → Q' (.panic c) a w) (ho : ∀ a w, Q .outgrown a w → Q' .outgrown a w) (hh : wpr P o a w K Q) : wpr P o a w K' Q' := by
  refine wpr_run ?_
  replace hh : o.uponIn Fence.wide 0 P a K Q ((execOp a.eval o).run P w) := hh.2
  generalize (execOp a.eval o).run P w = r at *
  cases r with
  | ok n w' =>
    cases n <;> simp only [Oper.uponIn] at hh ⊢ <;>
      first
        | exact h _ _ hh
        | exact ⟨hh.1, CallsIn.mono hh.2 (fun e w'' he => by cases e <;> first | exact h _ _ he | exact hq _ _ _ he | (obtain ⟨a0, w0, h0⟩ := he; exact ⟨a0, w0, ho _ _ h0⟩))⟩
        | exact ⟨hh.1, RowsIn.mono hh.2 (fun _ _ he => h _ _ he)⟩
        | exact ⟨hh.1, RoundIn.mono hh.2 (fun e w'' he => by cases e <;> first | exact h _ _ he | exact hq _ _ _ he | (obtain ⟨a0, w0, h0⟩ := he; exact ⟨a0, w0, ho _ _ h0⟩))⟩
        | exact hh.elim
  | halt x w' => cases x <;> simp only [Oper.uponIn] at hh ⊢ <;> first | exact hq _ _ _ hh | exact hh.elim
theorem wpOpsIn_append {P : Program} {ops : Array Oper} {Q : Exit → Act → World → Prop} : ∀ (l1 l2 : List Nat) (a : Act) (w : World), wpOpsIn Fence.wide 0 P ops (Exit.then (wpOpsIn Fence.wide 0 P ops Q l2) Q) l1 a w → wpOpsIn Fence.wide 0 P ops Q (l1 ++ l2) a w
  | [], l2, a, w, h => h
  | i :: l1, l2, a, w, h => by
    simp only [List.cons_append, wpOpsIn] at h ⊢
    cases ho : ops[i]? with
    | none => simp only [ho] at h ⊢; exact wpOpsIn_append l1 l2 a w h
    | some o =>
      simp only [ho] at h ⊢
      by_cases hw : Region.wanted o (yielded ops a.tmps) = true
      · simp only [hw, if_true] at h ⊢
        exact wp_mono3 (fun a w => wpOpsIn_append l1 l2 a w) (fun _ _ _ h => h) (fun _ _ h => h) h
      · simp only [hw, if_false, Bool.false_eq_true] at h ⊢
        exact ⟨h.1, wpOpsIn_append l1 l2 _ w h.2⟩
/-- A region from an operation on. -/
def RC (P : Program) (nt : Nat) (ops : Array Oper) (i : Nat) (st : St) (Q : SEx → St → Prop) : Prop :=
  ∀ cx, cx.nt = nt → dstL nt ops.toList = true → ∀ a w, Sat cx st a w → wpOpsIn Fence.wide 0 P ops (QL cx Q) (List.range' i (ops.size - i)) a w
theorem SC.regionC {P : Program} {nt id : Nat} {ops : Array Oper} {st : St} {Q : SEx → St → Prop} (h : RC P nt ops 0 st Q) : SC P nt (.region id ops false) st Q := by
  intro cx hn hok a w hs
  have := h cx hn hok a w hs
  exact (wpIn_wide (n := 0)).1 (wpIn_region (by rw [List.range_eq_range']; simpa using this))
theorem RC.done {P : Program} {nt : Nat} {ops : Array Oper} {i : Nat} {st : St} {Q : SEx → St → Prop} (hi : ops.size ≤ i) (h : Q .nrm st) : RC P nt ops i st Q := by
  intro cx hn hok a w hs
  rw [show ops.size - i = 0 by omega]
  exact ⟨st, h, hs⟩
/-- Some operations, and what follows. -/
theorem RC.sq {P : Program} {nt : Nat} {ops : Array Oper} {i : Nat} {st : St} {Q : SEx → St → Prop} (n : Nat) (hi : i + n ≤ ops.size) (h : sq1 P (panQ Q) ops.toList (fun st => RC P nt ops (i + n) st Q) ((ops.toList.drop i).take n) st) : RC P nt ops i st Q := by
  intro cx hn hok a w ⟨e, s, hs⟩
  have hl : ((ops.toList.drop i).take n).length = n := by simp; omega
  have h1 := sq1_ok (cx := cx) (P := P) (Qp := panQ Q) (by rw [hn]; exact hok) ((ops.toList.drop i).take n) i ((ops.toList.drop i).drop n) (List.take_append_drop _ _).symm st e s a w h hs
  rw [hl] at h1
  have h2 : List.range' i (ops.size - i) = List.range' i n ++ List.range' (i + n) (ops.size - (i + n)) := by
    rw [show ops.size - i = n + (ops.size - (i + n)) by omega, ← List.range'_append_1]
  rw [h2]
  refine wpOpsIn_append _ _ _ _ ?_
  have mono : ∀ (l : List Nat) (a : Act) (w : World), wpOpsIn Fence.wide 0 P ops (Lift cx (fun st => RC P nt ops (i + n) st Q) (panQ Q)) l a w → wpOpsIn Fence.wide 0 P ops (Exit.then (wpOpsIn Fence.wide 0 P ops (QL cx Q) (List.range' (i + n) (ops.size - (i + n)))) (QL cx Q)) l a w := by
    intro l
    induction l with
    | nil =>
      rintro a w ⟨st', h3, h4⟩
      exact h3 cx hn hok a w h4
    | cons j l ih =>
      intro a w h
      simp only [wpOpsIn] at h ⊢
      cases ho : ops[j]? with
      | none => simp only [ho] at h ⊢; exact ih a w h
      | some o =>
        simp only [ho] at h ⊢
        by_cases hw : Region.wanted o (yielded ops a.tmps) = true
        · simp only [hw, if_true] at h ⊢
          exact wp_mono3 ih (fun c a w hq => hq) (fun a w hq => hq) h
        · simp only [hw, if_false, Bool.false_eq_true] at h ⊢
          exact ⟨h.1, ih _ w h.2⟩
  exact mono _ a w h1
/-- One operation, by what is known of it. -/
theorem RC.op {P : Program} {nt : Nat} {ops : Array Oper} {i : Nat} {st : St} {Q : SEx → St → Prop} {o : Oper} (hi : ops[i]? = some o) (hg : o.guard = none) (h : ∀ cx, OpOK P cx o st (fun x st' => RC P nt ops (i + 1) (st'.put o.dst x) Q) (panQ Q)) : RC P nt ops i st Q := by
  intro cx hn hok a w ⟨e, s, hs⟩
  have hlt := (Array.getElem?_eq_some_iff.1 hi).1
  have hdo : ∀ d, o.dst = some d → d < cx.nt := by
    have : ∀ (l : List Oper), dstL nt l = true → ∀ o ∈ l, ∀ d, o.dst = some d → d < nt := by
      intro l
      induction l with
      | nil => intro _ o ho; cases ho
      | cons x l ih =>
        intro h o ho d hd
        simp only [dstL, Bool.and_eq_true] at h
        rcases List.mem_cons.1 ho with rfl | ho
        · rw [hd] at h; simpa using h.1
        · exact ih h.2 o ho d hd
    rw [hn]
    exact this _ hok o (List.mem_of_getElem? (by rw [Array.getElem?_toList]; exact hi))
  rw [show ops.size - i = (ops.size - (i + 1)) + 1 by omega, List.range'_succ]
  simp only [wpOpsIn, hi]
  have hw : Region.wanted o (yielded ops a.tmps) = true := by simp [Region.wanted, hg]
  rw [if_pos hw]
  refine wp_mono3 ?_ (fun c a w hq => hq) (fun a w hq => hq.elim) (h cx e s a w hs)
  rintro a' w' ⟨x, st', e', s', v, a0, h1, h2, h3, rfl⟩
  exact h1 cx hn hok _ w' ⟨e', s', h2.put o.dst h3 hdo⟩
/-- A sum that may not fit. -/
theorem opOK_addW {P : Program} {cx : Cx} {o : Oper} {st : St} {k : SV → St → Prop} {Qp : Value → St → Prop} {t u : TypeId} {x y : Operand} {i : IntKind} {p q : Int} (ho : o.op = .binOp .add t x y u) (hx : st.ev x = .v (.int i p)) (hy : st.ev y = .v (.int i q)) (hk : k (.v (.int i (i.wrap (p + q)))) st) : OpOK P cx o st k Qp := by
  refine opOK_pure fun e s a w hs => ?_
  have h1 := hs.ev x
  have h2 := hs.ev y
  rw [hx] at h1
  rw [hy] at h2
  simp only [is_v] at h1 h2
  refine ⟨_, _, hk, is_v.2 rfl, ?_⟩
  simp [execOp, ho, h1, h2, eqGuard, Go.binOp, Op.intArith]

/-! ### A deferred closure -/
def QLD (cx : Cx) (Q Q2 : SEx → St → Prop) (ex : Exit) (a : Act) (w : World) : Prop :=
  QL cx Q ex a w ∨ ∃ (fn : Go.Fn) (ys : Array Value) (gv : Nat → Value), gv 1000000 = .func fn #[] ys ∧ QL { cx with dfs := [{ target := .fn fn ys, args := #[] }], gv := gv } Q2 ex a w
/-- Code that may defer one closure; what is so behind it, without and with it. -/
def SCD (P : Program) (nt : Nat) (c : Code) (st : St) (Q Q2 : SEx → St → Prop) : Prop :=
  ∀ cx, cx.nt = nt → cx.dfs = [] → okC nt c = true → ∀ a w, Sat cx st a w → c.wp P (QLD cx Q Q2) a w
section
variable {P : Program} {nt : Nat} {st : St} {Q Q2 : SEx → St → Prop}
theorem SCD.of_SC {c : Code} (h : SC P nt c st Q) : SCD P nt c st Q Q2 := fun cx hn _ hok a w hs => wp_mono (h cx hn hok a w hs) fun _ _ _ hq => .inl hq
theorem SCD.seqN {x y : Code} (tl : List Nat) (kl : List Key) (h : ∀ K : St → Prop, (∀ st, SCD P nt y st Q Q2 → K st) → SC P nt x st (thenK (fun st => K (st.norm tl kl)) Q)) : SCD P nt (.seq x y) st Q Q2 := by
  intro cx hn hd hok a w hs
  simp only [okC, Bool.and_eq_true] at hok
  refine wp_seq (wp_mono (h (fun st => SCD P nt y st Q Q2) (fun _ h => h) cx hn hok.1 a w hs) fun e a w hq => ?_)
  cases e with
  | normal =>
    obtain ⟨st', h1, h2⟩ := hq
    exact h1 cx hn hd hok.2 a w (Le.norm st' tl kl cx a w h2)
  | _ => exact .inl hq
theorem SCD.cond {c : Operand} {x y : Code} {b : Bool} (hc : st.ev c = .v (.bool b)) (ht : b = true → SCD P nt x st Q Q2) (hf : b = false → SCD P nt y st Q Q2) : SCD P nt (.cond c x y) st Q Q2 := by
  intro cx hn hd hok a w hs
  simp only [okC, Bool.and_eq_true] at hok
  obtain ⟨e, s, hs1⟩ := hs
  have h1 := hs1.ev c
  rw [hc] at h1
  simp only [is_v] at h1
  cases b with
  | true => exact wp_cond_true h1 (ht rfl cx hn hd hok.1 a w ⟨e, s, hs1⟩)
  | false => exact wp_cond_false h1 (hf rfl cx hn hd hok.2 a w ⟨e, s, hs1⟩)
/-- The closure is made, and deferred. -/
theorem SCD.defer {id : Nat} {o0 o1 : Oper} {rest : Code} {t : Tmp} {ts : Array TypeId} (h1 : o1.op = .defer ⟨.value (.tmp t), #[], ts⟩) (hg1 : o1.guard = none) (hd1 : o1.dst = none) (ht : t < 1000000)
    (h : sq1 P (fun _ _ => False) [o0, o1] (fun st1 => ∃ f cs, fd st1.tm t = some (.clo f cs) ∧ SC P nt rest ⟨up st1.tm 1000000 (.clo f cs), st1.th, st1.F⟩ Q2) [o0] st) : SCD P nt (.seq (.region id #[o0, o1] false) rest) st Q Q2 := by
  intro cx hn hd hok a w ⟨e, s, hs⟩
  simp only [okC, Bool.and_eq_true] at hok
  refine wp_seq ((wpIn_wide (n := 0)).1 (wpIn_region ?_))
  have hsz : List.range (#[o0, o1] : Array Oper).size = [0] ++ [1] := rfl
  rw [hsz]
  refine wpOpsIn_append _ _ _ _ ?_
  have h3 := sq1_ok (cx := cx) (P := P) (Qp := fun _ _ => False) (ops := #[o0, o1]) (by rw [hn]; exact hok.1) [o0] 0 [o1] rfl st e s a w h hs
  have mono : ∀ (a : Act) (w : World), wpOpsIn Fence.wide 0 P #[o0, o1] (Lift cx (fun st1 => ∃ f cs, fd st1.tm t = some (.clo f cs) ∧ SC P nt rest ⟨up st1.tm 1000000 (.clo f cs), st1.th, st1.F⟩ Q2) (fun _ _ => False)) [0] a w → wpOpsIn Fence.wide 0 P #[o0, o1] (Exit.then (wpOpsIn Fence.wide 0 P #[o0, o1] (Exit.then (rest.wp P (QLD cx Q Q2)) (QLD cx Q Q2)) [1]) (Exit.then (rest.wp P (QLD cx Q Q2)) (QLD cx Q Q2))) [0] a w := by
    intro a w h
    have key : ∀ a w, wpOpsIn Fence.wide 0 P #[o0, o1] (Lift cx (fun st1 => ∃ f cs, fd st1.tm t = some (.clo f cs) ∧ SC P nt rest ⟨up st1.tm 1000000 (.clo f cs), st1.th, st1.F⟩ Q2) (fun _ _ => False)) [] a w → wpOpsIn Fence.wide 0 P #[o0, o1] (Exit.then (wpOpsIn Fence.wide 0 P #[o0, o1] (Exit.then (rest.wp P (QLD cx Q Q2)) (QLD cx Q Q2)) [1]) (Exit.then (rest.wp P (QLD cx Q Q2)) (QLD cx Q Q2))) [] a w := by
      rintro a w ⟨st1, ⟨f, cs, hfd, hsc⟩, e1, s1, hs1⟩
      have hx := hs1.tm t _ hfd
      simp only [SV.is] at hx
      obtain ⟨ys, hys, hcs⟩ := hx
      have hev : a.eval (.tmp t) = .func f #[] ys := by rw [← hys, Cx.slot, if_pos ht]; rfl
      show wpOpsIn Fence.wide 0 P #[o0, o1] (Exit.then (rest.wp P (QLD cx Q Q2)) (QLD cx Q Q2)) [1] a w
      have hi1 : (#[o0, o1] : Array Oper)[1]? = some o1 := rfl
      simp only [wpOpsIn, hi1]
      have hw : Region.wanted o1 (yielded #[o0, o1] a.tmps) = true := by simp [Region.wanted, hg1]
      rw [if_pos hw]
      refine wpr_run ?_
      have hr : (execOp a.eval o1).run P w = .ok (.defer { target := .fn f ys, args := #[] }) w := by
        simp [execOp, h1, resolve, hev, Deferred.ofValue]
      rw [hr, Oper.uponIn_defer, hd1]
      refine wp_mono (hsc { cx with dfs := [{ target := .fn f ys, args := #[] }], gv := fun i => if i = 1000000 then .func f #[] ys else cx.gv i } hn hok.2 _ w ⟨e1, s1, ?_⟩) fun ex a' w' hq => .inr ⟨f, ys, _, by simp, hq⟩
      have hslot : ∀ i (a' : Act), a'.tmps = a.tmps → i ≠ 1000000 → Cx.slot { cx with dfs := [{ target := .fn f ys, args := #[] }], gv := fun i => if i = 1000000 then .func f #[] ys else cx.gv i } a' i = cx.slot a i := by
        intro i a' ha' hi
        unfold Cx.slot
        split
        · rw [ha']
        · simp only [hi, if_false]
      refine { hs1 with nodef := ?_, tm := ?_ }
      · show { target := _, args := _ } :: a.defers = _
        rw [hs1.nodef, hd]
      · intro i x hx
        rw [fd_up] at hx
        split at hx
        · rename_i hi
          subst hi
          obtain rfl := Option.some.inj hx
          have hsl : ∀ (a' : Act), Cx.slot { cx with dfs := [{ target := .fn f ys, args := #[] }], gv := fun i => if i = 1000000 then .func f #[] ys else cx.gv i } a' 1000000 = .func f #[] ys := by
            intro a'
            rw [Cx.slot, if_neg (by omega)]
            simp
          rw [hsl]
          simp only [SV.is]
          exact ⟨ys, rfl, hcs⟩
        · rename_i hi
          have h9 := hslot i (({ a with defers := { target := .fn f ys, args := #[] } :: a.defers } : Act).put none undef) rfl (Ne.symm hi)
          exact h9 ▸ hs1.tm i x hx
    have hi0 : (#[o0, o1] : Array Oper)[0]? = some o0 := rfl
    simp only [wpOpsIn, hi0] at h ⊢
    by_cases hw : Region.wanted o0 (yielded #[o0, o1] a.tmps) = true
    · simp only [hw, if_true] at h ⊢
      exact wp_mono3 key (fun c a w hq => by obtain ⟨_, _, _, hf, _⟩ := hq; exact hf.elim) (fun a w hq => hq.elim) h
    · simp only [hw, if_false, Bool.false_eq_true] at h ⊢
      exact ⟨h.1, key _ w h.2⟩
  exact mono a w h3
end
end Go.Proofs.YtmamodnpghlgcaaDoor
/- Functions that defer a closure, which may recover: their contract. -/
set_option linter.unusedVariables false
set_option linter.unusedSimpArgs false
namespace Go.Proofs.YtmamodnpghlgcaaDoor
open Go.RowKit

/-- Behind the deferred closure. -/
def dR (P : Program) (rs : Array ResultVar) (R : Value → Fact → Prop) : SEx → St → Prop
  | .nrm, st => rsx P ⟨unT st.tm, st.th, st.F⟩ rs.toList (outV fun v => R v st.F) []
  | .ret, st => rsx P ⟨unT st.tm, st.th, st.F⟩ rs.toList (outV fun v => R v st.F) []
  | _, _ => False
theorem dR_nrm (P : Program) (rs : Array ResultVar) (R : Value → Fact → Prop) (st : St) : dR P rs R .nrm st = rsx P ⟨unT st.tm, st.th, st.F⟩ rs.toList (outV fun v => R v st.F) [] := rfl
theorem dR_ret (P : Program) (rs : Array ResultVar) (R : Value → Fact → Prop) (st : St) : dR P rs R .ret st = rsx P ⟨unT st.tm, st.th, st.F⟩ rs.toList (outV fun v => R v st.F) [] := rfl
/-- The deferred closure, where recover gives x. -/
def dW (P : Program) (g : FuncId) (gfn : Func) (gc : Code) (d0 d1 : Tmp) (rs : Array ResultVar) (R : Value → Fact → Prop) (x : Value) (st : St) : Prop :=
  ∃ cs, fd st.tm 1000000 = some (.clo (.func g) cs) ∧ cs.length ≤ gfn.ntmps ∧ SC P gfn.ntmps gc ⟨up (up (tmS 0 cs (shT st.tm)) d0 (.v x)) d1 (.v x), st.th, st.F⟩ (dR P rs R)
def dQ (P : Program) (g : FuncId) (gfn : Func) (gc : Code) (d0 d1 : Tmp) (rs : Array ResultVar) (R : Value → Fact → Prop) : SEx → St → Prop
  | .nrm, st => dW P g gfn gc d0 d1 rs R .nilIface st
  | .ret, st => dW P g gfn gc d0 d1 rs R .nilIface st
  | .pan v, st => dW P g gfn gc d0 d1 rs R v st
  | .ext _, _ => False
theorem Fn.of_bodyD {P : Program} {f : FuncId} {fn : Func} {c : Code} {args : List Value} {F : Fact} {R : Value → Fact → Prop} {g : FuncId} {gfn : Func} {gc : Code} {id : Nat} {d0 d1 : Tmp} {ty0 ty1 : TypeId} {p0 p1 : String} {a0 a1 : Array Edge}
    (hf : P.funcs[f]? = some fn) (hb : fn.body = some c) (hn : args.length ≤ fn.ntmps) (hnb : fn.ntmps ≤ 1000000) (hok : okC fn.ntmps c = true)
    (hg : P.funcs[g]? = some gfn) (hgb : gfn.body = some (.seq (.region id #[⟨some d0, .call ⟨.builtin .recover, #[], #[]⟩, ty0, p0, a0, none⟩, ⟨some d1, .assign (.tmp d0), ty1, p1, a1, none⟩] false) gc)) (hgn : gfn.ntmps ≤ 1000000) (hgok : okC gfn.ntmps gc = true) (hgr : gfn.results = #[]) (hgk : fnOK P g = true) (hd0 : d0 < gfn.ntmps) (hd1 : d1 < gfn.ntmps)
    (h : SCD P fn.ntmps c ⟨tm0 0 args, [], F⟩ (fnQ P fn.results R) (dQ P g gfn gc d0 d1 fn.results R)) : Fn P f args F R := by
  intro s w hin hF
  refine calls_of_wp_defers hf hb ?_
  have hs0 := Cx.start (P := P) w s fn args F hin hF hn hnb
  have done : ∀ (a' : Act) (cx : Cx) (st : St) (e' : Env) (s' : Hp) (w' : World), cx.w0 = w → cx.s0 = s → cx.bor = [] → rsx P st fn.results.toList (outV fun v => R v st.F) [] → Sat1 cx st e' s' a' w' → ∃ v, (results fn a'.tmps).run P w' = .ok v w' ∧ FnPost R s w (.returned v) w' := by
    intro a' cx st e' s' w' hw0 hs0 hbor h1 hs'
    obtain ⟨l', ys, h2, h3, h4⟩ := rsx_run hs' fn.results.toList _ [] [] (by simp [SV.isL]) h1
    unfold outV at h2
    split at h2
    · rename_i vs hv
      rw [vals_spec (e := e') hv, List.nil_append] at h3
      have := SV.isL_map_eq vs h3
      subst this
      have hge := hs'.ge
      have hos := hs'.os
      have htape := hs'.tape
      have hout := hs'.output
      have hgrow := hs'.grow
      have hfr := hs'.frame
      have hnew := hs'.new
      rw [hw0] at hos htape hout hgrow hfr hnew
      rw [hs0] at hge hnew
      rw [hbor] at hfr hnew
      refine ⟨tupV ys, ?_, st.F, s', h2, ⟨hge, hs'.inw, hs'.fact, ?_, ⟨hos, htape, hout, hgrow, fun g hg => hfr g hg (fun n hn => by cases hn)⟩⟩⟩
      · unfold results
        rw [Sem.run_bind]
        have hm : (fn.results.mapM (resF a'.tmps)).run P w' = .ok ys.toArray w' := by
          rw [Array.mapM_eq_mapM_toList, ← bind_pure_comp, Sem.run_bind, h4]; rfl
        change ((Sem.run P (Array.mapM (resF a'.tmps) fn.results) w').andThen _) = _
        rw [hm]
        simp only [Result.andThen_ok, Sem.run_pure]
        congr 1
        cases ys with
        | nil => rfl
        | cons y l => cases l with
          | nil => rfl
          | cons z l => simp [tupV]
      · intro g hg
        rcases hnew g hg with h5 | h5 | ⟨n, h5⟩
        · exact .inl h5
        · exact .inr h5
        · cases h5
    · exact h2.elim
  -- the deferred closure, in whatever mode
  have clo : ∀ (a' : Act) (cx1 : Cx) (st : St) (w' : World) (x : Value) (u : FrameMode) (fv : Go.Fn) (ys : Array Value), cx1.w0 = w → cx1.s0 = s → cx1.bor = [] → cx1.gv 1000000 = .func fv #[] ys → cx1.dfs = [{ target := .fn fv ys, args := #[] }] → u ≠ .run →
      (∀ (c0 : Frame) (cs : List Frame), c0.mode = u → ∃ u', settle u' = .returning ∧ ((recoverD (c0 :: cs) = none ∧ x = .nilIface ∧ u' = u) ∨ recoverD (c0 :: cs) = some (x, { c0 with mode := u' } :: cs))) →
      dW P g gfn gc d0 d1 fn.results R x st → Sat cx1 st a' w' → Leaves P fn a'.tmps (FnPost R s w) a'.defers u w' := by
    rintro a' cx1 st w' x u fv ys hw0 hs0 hbor hgv hdfs hu hrec ⟨cs, hfd, hcl, hsc⟩ ⟨e1, s1, h1⟩
    have hx := h1.tm 1000000 _ hfd
    rw [Cx.slot, if_neg (by omega), hgv] at hx
    simp only [SV.is] at hx
    obtain ⟨ys', hxe, hcs⟩ := hx
    obtain ⟨rfl, _, rfl⟩ := Value.func.inj hxe
    rw [h1.nodef, hdfs]
    have hinv : (invoke (.fn (.func g) ys) #[]).run P w' = .ok (.enter g ys) w' := by
      simp only [invoke, Array.empty_append]
      exact fnOK_run hgk ys w'
    refine leaves_cons hu hinv ?_
    refine CallsD.mono (R := fun en u' w'' => settle u' = .returning ∧ match en with | .returned _ => ∃ v, (results fn a'.tmps).run P w'' = .ok v w'' ∧ FnPost R s w (.returned v) w'' | .panicked _ => False | .outgrown => False) ?_ ?_
    · refine callsD_of_wpS hg hgb fun c0 fs hm => ?_
      obtain ⟨u', hset, hr⟩ := hrec c0 fs hm
      let cx2 : Cx := { cx1 with nt := gfn.ntmps, gv := fun i => cx1.slot a' (i - 1000000), dfs := [] }
      have hlen := SV.isL_length hcs
      have hst : Sat1 cx2 ⟨tmS 0 cs (shT st.tm), st.th, st.F⟩ e1 s1 { tmps := ys ++ Array.replicate (gfn.ntmps - ys.size) undef, defers := [] } w' := by
        refine { size := ?_, ntB := hgn, nodef := rfl, tm := ?_, own := h1.own, fresh := h1.fresh, inw := h1.inw, ge := h1.ge, new := h1.new, fact := h1.fact, os := h1.os, tape := h1.tape, output := h1.output, grow := h1.grow, frame := h1.frame, borB := h1.borB, bnB := h1.bnB }
        · simp only [Array.size_append, Array.size_replicate]
          show _ = gfn.ntmps
          have : ys.size = cs.length := by rw [← hlen]; simp
          omega
        · intro i y hy
          rcases fd_tmS _ _ _ _ _ hy with ⟨_, h3⟩ | h3
          · rw [Nat.sub_zero] at h3
            obtain ⟨z, h4, h5⟩ := SV.isL_get hcs i y h3
            have hlt := (List.getElem?_eq_some_iff.1 h4).1
            have hlt' : i < ys.size := by simpa using hlt
            have he : cx2.slot { tmps := ys ++ Array.replicate (gfn.ntmps - ys.size) undef, defers := [] } i = z := by
              have hlc : i < cs.length := by rw [← hlen]; exact hlt
              rw [Cx.slot, if_pos (by omega), Array.getD_eq_getD_getElem?, Array.getElem?_append_left hlt', ← Array.getElem?_toList, h4]
              rfl
            rw [he]; exact h5
          · obtain ⟨h4, h5⟩ := fd_shT _ _ _ h3
            have he : cx2.slot { tmps := ys ++ Array.replicate (gfn.ntmps - ys.size) undef, defers := [] } i = cx1.slot a' (i - 1000000) := by
              rw [Cx.slot, if_neg (by omega)]
            rw [he]; exact h1.tm _ _ h5
      have back : ∀ {st' : St} {e' : Env} {s' : Hp} {b' : Act} {w'' : World}, Sat1 cx2 st' e' s' b' w'' → Sat1 cx1 ⟨unT st'.tm, st'.th, st'.F⟩ e' s' a' w'' := by
        intro st' e' s' b' w'' h'
        refine { size := h1.size, ntB := h1.ntB, nodef := h1.nodef, tm := ?_, own := h'.own, fresh := h'.fresh, inw := h'.inw, ge := h'.ge, new := h'.new, fact := h'.fact, os := h'.os, tape := h'.tape, output := h'.output, grow := h'.grow, frame := h'.frame, borB := h'.borB, bnB := h'.bnB }
        intro i y hy
        have := h'.tm _ _ (fd_unT _ _ _ hy)
        have he : cx2.slot b' (i + 1000000) = cx1.slot a' i := by
          have hlt : ¬ i + 1000000 < 1000000 := by omega
          have h3 : cx2.slot b' (i + 1000000) = cx2.gv (i + 1000000) := by
            generalize i + 1000000 = m at hlt
            rw [Cx.slot, if_neg hlt]
          have h4 : cx2.gv (i + 1000000) = cx1.slot a' i := by
            have h5 : i + 1000000 - 1000000 = i := by omega
            generalize i + 1000000 = m at h5
            rw [← h5]
          exact h3.trans h4
        rwa [he] at this
      have fin : ∀ (st' : St) (b' : Act) (w'' : World), rsx P ⟨unT st'.tm, st'.th, st'.F⟩ fn.results.toList (outV fun v => R v st'.F) [] → Sat cx2 st' b' w'' → b'.defers = [] ∧ (results gfn b'.tmps).run P w'' = .ok (.tuple #[]) w'' ∧ ∃ v, (results fn a'.tmps).run P w'' = .ok v w'' ∧ FnPost R s w (.returned v) w'' := by
        rintro st' b' w'' h3 ⟨e', s', h4⟩
        refine ⟨h4.nodef, ?_, done a' cx1 _ e' s' w'' hw0 hs0 hbor h3 (back h4)⟩
        unfold results
        rw [hgr]
        simp [Sem.run_bind, Sem.run_pure]
      have rest : ∀ (c1 : Frame), c1 = { c0 with mode := u' } → gc.wpS P (bodyPostS P gfn c0 fs (fun en u' w'' => settle u' = .returning ∧ match en with | .returned _ => ∃ v, (results fn a'.tmps).run P w'' = .ok v w'' ∧ FnPost R s w (.returned v) w'' | .panicked _ => False | .outgrown => False))
          ((({ tmps := ys ++ Array.replicate (gfn.ntmps - ys.size) undef, defers := [] } : Act).put (some d0) x).put (some d1) x) (c1 :: fs) w' := by
        rintro c1 rfl
        refine wpS_of_wp (wp_mono (hsc cx2 rfl hgok _ w' ⟨e1, s1, (hst.put (some d0) (is_v.2 rfl) (fun i hi => by cases hi; exact hd0)).put (some d1) (is_v.2 rfl) (fun i hi => by cases hi; exact hd1)⟩) fun ex b' w'' hq => ?_)
        cases ex with
        | normal =>
          obtain ⟨st', h3, h4⟩ := hq
          obtain ⟨k1, k2, k3⟩ := fin st' b' w'' h3 h4
          exact ⟨k1, u', rfl, _, k2, hset, k3⟩
        | ret =>
          obtain ⟨st', h3, h4⟩ := hq
          obtain ⟨k1, k2, k3⟩ := fin st' b' w'' h3 h4
          exact ⟨k1, u', rfl, _, k2, hset, k3⟩
        | exit i => obtain ⟨st', h3, h4⟩ := hq; exact h3.elim
        | goto i => exact hq.elim
        | panic ch => obtain ⟨v, st', _, h3, _⟩ := hq; exact h3.elim
        | outgrown => exact hq.elim
      refine wpS_seq (wpS_region ?_)
      have hrg : List.range (#[⟨some d0, .call ⟨.builtin .recover, #[], #[]⟩, ty0, p0, a0, none⟩, ⟨some d1, .assign (.tmp d0), ty1, p1, a1, none⟩] : Array Oper).size = [0, 1] := rfl
      rw [hrg]
      have hx0 : ∀ (A : Act) (W : World), (execOp A.eval ⟨some d0, .call ⟨.builtin .recover, #[], #[]⟩, ty0, p0, a0, none⟩).run P W = .ok .recover W := fun A W => by simp [execOp, resolve, invoke, Go.builtin]
      have hv0 : (({ tmps := ys ++ Array.replicate (gfn.ntmps - ys.size) undef, defers := [] } : Act).put (some d0) x).eval (.tmp d0) = x := by
        have := hst.size
        simp only [Act.put, Act.eval]
        rw [Array.getD_eq_getD_getElem?, Array.getElem?_setIfInBounds, if_pos rfl, if_pos (by rw [this]; exact hd0)]
        rfl
      have tail : ∀ c1 : Frame, c1 = { c0 with mode := u' } → wpOpsS P #[⟨some d0, .call ⟨.builtin .recover, #[], #[]⟩, ty0, p0, a0, none⟩, ⟨some d1, .assign (.tmp d0), ty1, p1, a1, none⟩] (Exit.thenS (gc.wpS P (bodyPostS P gfn c0 fs (fun en u' w'' => settle u' = .returning ∧ match en with | .returned _ => ∃ v, (results fn a'.tmps).run P w'' = .ok v w'' ∧ FnPost R s w (.returned v) w'' | .panicked _ => False | .outgrown => False))) (bodyPostS P gfn c0 fs (fun en u' w'' => settle u' = .returning ∧ match en with | .returned _ => ∃ v, (results fn a'.tmps).run P w'' = .ok v w'' ∧ FnPost R s w (.returned v) w'' | .panicked _ => False | .outgrown => False))) [1] (({ tmps := ys ++ Array.replicate (gfn.ntmps - ys.size) undef, defers := [] } : Act).put (some d0) x) (c1 :: fs) w' := by
        intro c1 hc1
        have hx1 : (execOp (({ tmps := ys ++ Array.replicate (gfn.ntmps - ys.size) undef, defers := [] } : Act).put (some d0) x).eval ⟨some d1, .assign (.tmp d0), ty1, p1, a1, none⟩).run P w' = .ok (.value x) w' := by
          simp only [execOp, hv0]; rfl
        simp only [wpOpsS]
        have hi1 : (#[⟨some d0, .call ⟨.builtin .recover, #[], #[]⟩, ty0, p0, a0, none⟩, ⟨some d1, .assign (.tmp d0), ty1, p1, a1, none⟩] : Array Oper)[1]? = some ⟨some d1, .assign (.tmp d0), ty1, p1, a1, none⟩ := rfl
        simp only [hi1]
        rw [if_pos (by simp [Region.wanted])]
        rw [hx1]
        exact rest c1 hc1
      have hi0 : (#[⟨some d0, .call ⟨.builtin .recover, #[], #[]⟩, ty0, p0, a0, none⟩, ⟨some d1, .assign (.tmp d0), ty1, p1, a1, none⟩] : Array Oper)[0]? = some ⟨some d0, .call ⟨.builtin .recover, #[], #[]⟩, ty0, p0, a0, none⟩ := rfl
      rw [wpOpsS]
      simp only [hi0]
      rw [if_pos (by simp [Region.wanted]), hx0]
      simp only
      rcases hr with ⟨hr1, rfl, rfl⟩ | hr1
      · rw [hr1]
        exact tail c0 (by rw [← hm])
      · rw [hr1]
        exact tail _ rfl
    · intro en u' w'' ⟨hset, hp⟩
      cases en with
      | returned v =>
        obtain ⟨v', k1, k2⟩ := hp
        show Leaves P fn a'.tmps (FnPost R s w) [] (settle u') w''
        rw [hset]
        exact ⟨v', k1, k2⟩
      | panicked ch => exact hp.elim
      | outgrown => exact hp.elim
  refine wp_mono (h ⟨w, s, fn.ntmps, [], fun _ => undef, []⟩ rfl rfl hok _ w ⟨_, s, hs0⟩) fun e a' w' hq => ?_
  rcases hq with hq | ⟨fv, ys, gv, hgv, hq⟩
  · cases e with
    | normal =>
      obtain ⟨st, h1, e', s', h2⟩ := hq
      show Leaves P fn a'.tmps (FnPost R s w) a'.defers .returning w'
      rw [h2.nodef]
      exact done a' _ st e' s' w' rfl rfl rfl h1 h2
    | ret =>
      obtain ⟨st, h1, e', s', h2⟩ := hq
      show Leaves P fn a'.tmps (FnPost R s w) a'.defers .returning w'
      rw [h2.nodef]
      exact done a' _ st e' s' w' rfl rfl rfl h1 h2
    | exit i => obtain ⟨st, h1, h2⟩ := hq; exact h1.elim
    | panic ch => obtain ⟨v, st, _, h1, h2⟩ := hq; exact h1.elim
    | outgrown => exact hq.elim
    | goto l => exact hq.elim
  · have nrm : ∀ (st : St), dW P g gfn gc d0 d1 fn.results R .nilIface st → Sat ⟨w, s, fn.ntmps, [], gv, [{ target := .fn fv ys, args := #[] }]⟩ st a' w' → Leaves P fn a'.tmps (FnPost R s w) a'.defers .returning w' := fun st h1 h2 =>
      clo a' _ st w' .nilIface .returning fv ys rfl rfl rfl hgv rfl (by simp) (fun c0 cs hm => ⟨.returning, rfl, .inl ⟨by simp [recoverD, hm], rfl, rfl⟩⟩) h1 h2
    cases e with
    | normal => obtain ⟨st, h1, h2⟩ := hq; exact nrm st h1 h2
    | ret => obtain ⟨st, h1, h2⟩ := hq; exact nrm st h1 h2
    | exit i => obtain ⟨st, h1, h2⟩ := hq; exact h1.elim
    | panic ch =>
      obtain ⟨v, st, rfl, h1, h2⟩ := hq
      exact clo a' _ st w' v (.panicking [{ v := v, recovered := false }]) fv ys rfl rfl rfl hgv rfl (by simp) (fun c0 cs hm => ⟨.panicking [{ v := v, recovered := true }], rfl, .inr (by simp [recoverD, hm])⟩) h1 h2
    | outgrown => exact hq.elim
    | goto l => exact hq.elim
end Go.Proofs.YtmamodnpghlgcaaDoor
/- A round of a range over a function. -/
set_option linter.unusedVariables false
set_option linter.unusedSimpArgs false
namespace Go.Proofs.YtmamodnpghlgcaaDoor
open Go.RowKit

/-- Another thing in a block that a thing has, in a world where nothing else is turned. -/
theorem Sat1.turned {cx : Cx} {st : St} {e : Env} {s : Hp} {a : Act} {w w' : World} (h : Sat1 cx st e s a w) {q : Key} {t0 t : Thing} (h0 : fd st.th q = some t0) {g : Nat} (hg : t0.blk e q = some g) (ht : t.holds e q w') (hb : t.blk e q = t0.blk e q)
    (hother : ∀ g', g' < w.heap.size → g' ≠ g → w'.heap[g']? = w.heap[g']?) (hos : w'.os = w.os) (htape : w'.tape = w.tape) (hout : w'.output = w.output) (hsize : w.heap.size ≤ w'.heap.size) : Sat1 cx { st with th := up st.th q t } e s a w' := by
  refine { size := h.size, ntB := h.ntB, nodef := h.nodef, tm := h.tm, own := ?_, fresh := ?_, inw := ?_, ge := h.ge, new := h.new, fact := h.fact, os := hos.trans h.os, tape := htape.trans h.tape, output := hout.trans h.output, grow := Nat.le_trans h.grow hsize, frame := ?_, borB := h.borB, bnB := h.bnB }
  · refine h.own.turn q h0 ht hb fun k u g' hk hu hg' => hother g' (Thing.blk_lt (h.own.holds k u hu) hg') fun he => ?_
    subst he
    exact hk (h.own.apart k q u t0 g' hu h0 hg' hg)
  · intro k u g' hu hg'
    rw [fd_up] at hu
    split at hu
    · rename_i hq
      subst hq
      obtain rfl := Option.some.inj hu
      rw [hb] at hg'
      exact h.fresh _ _ g' h0 hg'
    · exact h.fresh k u g' hu hg'
  · refine Hp.inw_of h.inw fun g' hs => hother g' (Hp.has_lt h.inw hs) fun he => ?_
    subst he
    exact h.own.free q t0 g' h0 hg hs
  · intro g' hg' hbor
    rw [hother g' (Nat.lt_of_lt_of_le hg' h.grow) fun he => ?_]
    · exact h.frame g' hg' hbor
    · subst he
      rcases h.fresh q t0 g' h0 hg with h1 | ⟨n, h1⟩
      · exact absurd hg' (by omega)
      · exact hbor n h1
def noDef (ops : Array Oper) : Bool := ops.all fun o => match o.op with | .defer _ => false | _ => true
theorem noDef_spec {ops : Array Oper} (h : noDef ops = true) {i : Nat} {o : Oper} (hi : ops[i]? = some o) (c : Call) : o.op ≠ .defer c := by
  intro he
  have := Array.all_eq_true'.1 h o (Array.mem_of_getElem? hi)
  rw [he] at this
  cases this
/-- What operations do in an activation, they do in a round. -/
theorem ops_inRound {P : Program} {ops : Array Oper} (hd : noDef ops = true) (l : Nat) {Q : Exit → Act → World → Prop} : ∀ (is : List Nat) (a : Act) (w : World), wpOpsIn Fence.wide 0 P ops Q is a w → wpOpsIn (Fence.wide.inRound l) 0 P ops Q is a w
  | [], a, w, h => h
  | i :: is, a, w, h => by
    simp only [wpOpsIn] at h ⊢
    cases ho : ops[i]? with
    | none => simp only [ho] at h ⊢; exact ops_inRound hd l is a w h
    | some o =>
      simp only [ho] at h ⊢
      by_cases hw : Region.wanted o (yielded ops a.tmps) = true
      · simp only [hw, if_true] at h ⊢
        have h2 := wp_mono3 (K' := wpOpsIn (Fence.wide.inRound l) 0 P ops Q is) (fun a w => ops_inRound hd l is a w) (fun _ _ _ h => h) (fun _ _ h => h) h
        refine ⟨fun _ _ => trivial, ?_⟩
        rw [Fence.inRound_round, Oper.semAt_eq _ _ _ (noDef_spec hd ho)]
        exact h2.2
      · simp only [hw, if_false, Bool.false_eq_true] at h ⊢
        exact ⟨h.1, ops_inRound hd l is _ w h.2⟩
/-- Operations that make no call. -/
def tame (o : Oper) : Bool := match o.op with | .move _ | .assign _ | .load .. | .store .. | .binOp .. => true | _ => false
theorem run_v_inv {P : Program} {x : Sem Value} {w w' : World} {n : Next} (h : ((do pure (.value (← x))) : Sem Next).run P w = .ok n w') : ∃ v, n = .value v := by
  rw [Sem.run_bind] at h
  cases hx : x.run P w with
  | ok v w1 => rw [hx] at h; simp only [Result.andThen_ok, Sem.run_pure] at h; cases h; exact ⟨v, rfl⟩
  | halt y w1 => rw [hx] at h; cases h
theorem run_u_inv {P : Program} {x : Sem Unit} {w w' : World} {n : Next} (h : ((do x; pure .skip) : Sem Next).run P w = .ok n w') : n = .skip := by
  rw [Sem.run_bind] at h
  cases hx : x.run P w with
  | ok v w1 => rw [hx] at h; simp only [Result.andThen_ok, Sem.run_pure] at h; cases h; rfl
  | halt y w1 => rw [hx] at h; cases h
theorem tame_next {P : Program} {o : Oper} (ht : tame o = true) {ρ : Operand → Value} {w w' : World} {n : Next} (h : (execOp ρ o).run P w = .ok n w') : (∃ v, n = .value v) ∨ n = .skip := by
  unfold tame at ht
  cases ho : o.op <;> simp only [ho] at ht <;> try (first | cases ht | skip)
  all_goals simp only [execOp, ho] at h
  · simp only [Sem.run_pure] at h; cases h; exact .inl ⟨_, rfl⟩
  · simp only [Sem.run_pure] at h; cases h; exact .inl ⟨_, rfl⟩
  · exact .inl (run_v_inv h)
  · exact .inr (run_u_inv h)
  · exact .inl (run_v_inv h)
theorem wp_mono_tame {P : Program} {o : Oper} (ht : tame o = true) {a : Act} {w : World} {K K' : Act → World → Prop} {Q Q' : Exit → Act → World → Prop} (h : ∀ a w, K a w → K' a w) (hq : ∀ c a w, Q (.panic c) a w → Q' (.panic c) a w) (hh : wpr P o a w K Q) : wpr P o a w K' Q' := by
  refine wpr_run ?_
  replace hh : o.uponIn Fence.wide 0 P a K Q ((execOp a.eval o).run P w) := hh.2
  cases hr : (execOp a.eval o).run P w with
  | ok n w' =>
    rw [hr] at hh
    rcases tame_next ht hr with ⟨v, rfl⟩ | rfl
    · exact h _ _ hh
    · exact h _ _ hh
  | halt x w' =>
    rw [hr] at hh
    cases x <;> simp only [Oper.uponIn] at hh ⊢ <;> first | exact hq _ _ _ hh | exact hh.elim
theorem ops_mono_tame {P : Program} {ops : Array Oper} (ht : ops.all tame = true) {Q Q' : Exit → Act → World → Prop} (hN : ∀ a w, Q .normal a w → Q' .normal a w) (hP : ∀ c a w, Q (.panic c) a w → Q' (.panic c) a w) : ∀ (is : List Nat) (a : Act) (w : World), wpOpsIn Fence.wide 0 P ops Q is a w → wpOpsIn Fence.wide 0 P ops Q' is a w
  | [], a, w, h => hN a w h
  | i :: is, a, w, h => by
    simp only [wpOpsIn] at h ⊢
    cases ho : ops[i]? with
    | none => simp only [ho] at h ⊢; exact ops_mono_tame ht hN hP is a w h
    | some o =>
      have hto := Array.all_eq_true'.1 ht o (Array.mem_of_getElem? ho)
      simp only [ho] at h ⊢
      by_cases hw : Region.wanted o (yielded ops a.tmps) = true
      · simp only [hw, if_true] at h ⊢
        exact wp_mono_tame hto (fun a w => ops_mono_tame ht hN hP is a w) hP h
      · simp only [hw, if_false, Bool.false_eq_true] at h ⊢
        exact ⟨h.1, ops_mono_tame ht hN hP is _ w h.2⟩
/-- What never turns, where nothing but the name of one block is known. -/
def Hp.zip : Hp := ⟨fun _ _ => none, fun _ => none, fun _ => none⟩
theorem Hp.zip_has {g : Nat} (h : Hp.zip.has g) : False := by
  rcases h with ⟨o, v, h⟩ | ⟨m, h⟩ | ⟨o, h⟩ <;> cases h
theorem Sat1.named {w : World} {b nt : Nat} {ty : TypeId} {acc : Value} {a : Act} {tm : List (Nat × SV)} (hb : w.heap[b]? = some (.cells #[acc] ty (0, 0))) (hsz : a.tmps.size = nt) (hnt : nt ≤ 1000000) (hd : a.defers = []) (htm : ∀ i x, fd tm i = some x → x.is Env.start (Cx.slot ⟨w, Hp.zip, nt, [(b, b)], fun _ => undef, []⟩ a i)) :
    Sat1 ⟨w, Hp.zip, nt, [(b, b)], fun _ => undef, []⟩ ⟨tm, [(.b b, .box [.v acc] ty)], .tt⟩ Env.start Hp.zip a w := by
  have hB : Env.start.B (.b b) = b := rfl
  have one : ∀ k t, fd [(Key.b b, Thing.box [.v acc] ty)] k = some t → k = .b b ∧ t = .box [.v acc] ty := by
    intro k t h
    simp only [fd] at h
    split at h
    · rename_i hk; exact ⟨hk.symm, (Option.some.inj h).symm⟩
    · cases h
  refine { size := hsz, ntB := hnt, nodef := hd, tm := htm, own := ⟨?_, ?_, ?_⟩, fresh := ?_, inw := ⟨(fun _ _ _ h => by cases h), (fun _ _ h => by cases h), (fun _ _ h => by cases h)⟩, ge := Hp.le_refl _, new := fun g h => (Hp.zip_has h).elim, fact := trivial, os := rfl, tape := rfl, output := rfl, grow := Nat.le_refl _, frame := fun _ _ _ => rfl, borB := ?_, bnB := fun _ => rfl }
  · intro k t h
    obtain ⟨rfl, rfl⟩ := one k t h
    exact ⟨#[acc], by rw [hB]; exact hb, by simp [SV.isL, SV.is]⟩
  · intro k k' t t' g h h' _ _
    rw [(one k t h).1, (one k' t' h').1]
  · intro k t g _ _ hs
    exact Hp.zip_has hs
  · intro k t g h hg
    obtain ⟨rfl, rfl⟩ := one k t h
    simp only [Thing.blk, Option.some.injEq] at hg
    rw [hB] at hg
    subst hg
    exact .inr ⟨b, by simp⟩
  · intro n g h
    simp only [List.mem_singleton, Prod.mk.injEq] at h
    obtain ⟨rfl, rfl⟩ := h
    exact hB
theorem isL_one {e : Env} {acc : Value} {ys : Array Value} (h : SV.isL e [.v acc] ys.toList) : ys = #[acc] := by
  have := SV.isL_map_eq [acc] (e := e) h
  apply Array.ext'; exact this
/-- What a round does to the box. -/
def RoundOK (P : Program) (nt : Nat) (p pa : Tmp) (ty : TypeId) (aops bops : Array Oper) (ok : Value → Value → Prop) (step : Value → Value → Value) : Prop :=
  ∀ (b : Nat) acc x, ok acc x → sq1 P (fun _ _ => False) aops.toList (fun st1 => st1.th = [(.b b, .box [.v acc] ty)] ∧ sq1 P (fun _ _ => False) bops.toList (fun st2 => fd st2.th (.b b) = some (.box [.v (step acc x)] ty)) bops.toList ⟨st1.tm, st1.th, .tt⟩) aops.toList ⟨[(p, .v x), (pa, .own (.b b) 0)], [(.b b, .box [.v acc] ty)], .tt⟩
theorem yield_ok {P : Program} {l b p pa : Nat} {r : Loop} {ty : TypeId} {ia ib ic : Nat} {aops bops : Array Oper} {ok : Value → Value → Prop} {step : Value → Value → Value} (hst : r.state = .ready) (hpe : r.pending = none) (hpar : r.params = #[p]) (hasg : r.assign = .region ia aops false) (hbod : r.body = .block ib (.region ic bops false))
    (hnt : r.tmps.size ≤ 1000000) (hp : p < r.tmps.size) (hpa : pa < r.tmps.size) (hne : p ≠ pa) (hbx : r.tmps.getD pa undef = .pointer (some ⟨b, 0, none⟩)) (hda : dstL r.tmps.size aops.toList = true) (hdb : dstL r.tmps.size bops.toList = true) (hna : noDef aops = true) (hnb : noDef bops = true) (hta : aops.all tame = true) (htb : bops.all tame = true) (hlb : l ≠ b)
    (hR : RoundOK P r.tmps.size p pa ty aops bops ok step) {st : St} {k : SV → St → Prop} {Qp : Value → St → Prop} {acc x : Value} (hax : ok acc x) (hbox : fd st.th (.b b) = some (.box [.v acc] ty)) (hob : st.F.to (obF l (.loop r)))
    (hk : k (.v (.bool true)) { st with th := up st.th (.b b) (.box [.v (step acc x)] ty) }) : yieldL P l [.v x] st k Qp := by
  refine ⟨?_⟩
  intro cx e s a w vs hs hl
  simp only [SV.isL, SV.is] at hl
  obtain ⟨y, ys0, rfl, rfl, rfl⟩ := hl
  have hw : w.heap[l]? = some (.loop r) := hs.inw.ob _ _ (hob s hs.fact)
  have hB : e.B (.b b) = b := hs.bnB b
  obtain ⟨ys, hys, hly⟩ := hs.own.holds _ _ hbox
  have hya : ys = #[acc] := isL_one hly
  subst hya
  rw [hB] at hys
  have hbl : b < w.heap.size := (Array.getElem?_eq_some_iff.1 hys).1
  have hll : l < w.heap.size := (Array.getElem?_eq_some_iff.1 hw).1
  refine ⟨r.fn, _, r.assign, r.body, run_yield hw (by rw [hpar]; rfl), ?_⟩
  have htm : (r.params.zip #[y]).foldl (fun tmps (t, a) => tmps.setIfInBounds t a) r.tmps = r.tmps.setIfInBounds p y := by rw [hpar]; simp
  rw [show (r.params.zip #[y].toList.toArray).foldl (fun tmps (x : Tmp × Value) => tmps.setIfInBounds x.1 x.2) r.tmps = r.tmps.setIfInBounds p y by rw [hpar]; simp]
  refine roundIn_of_wpIn trivial ?_
  rw [hasg]
  have hS0 := Sat1.named (nt := r.tmps.size) (a := { tmps := r.tmps.setIfInBounds p y, defers := [] }) (tm := [(p, .v y), (pa, .own (.b b) 0)]) hys (by simp) hnt rfl (by
    intro i z hz
    simp only [fd] at hz
    split at hz
    · rename_i hi
      subst hi
      cases hz
      rw [is_v, Cx.slot, if_pos (by omega), Array.getD_eq_getD_getElem?, Array.getElem?_setIfInBounds, if_pos rfl, if_pos hp]
      rfl
    · split at hz
      · rename_i hi
        subst hi
        cases hz
        rw [Cx.slot, if_pos (by omega), Array.getD_eq_getD_getElem?, Array.getElem?_setIfInBounds, if_neg hne, ← Array.getD_eq_getD_getElem?, hbx]
        simp [SV.is, Env.start]
      · cases hz)
  have h1 := sq1_ok (P := P) (Qp := fun _ _ => False) hda aops.toList 0 [] (by simp) _ _ _ _ _ (hR b acc y hax) hS0
  refine wpIn_region (ops_inRound hna l _ _ _ (ops_mono_tame hta ?_ ?_ _ _ _ (by rw [List.range_eq_range']; simpa using h1)))
  rotate_left
  · rintro c a1 w1 ⟨_, _, _, hf, _⟩; exact hf
  rintro a1 w1 ⟨st1, ⟨hth1, hb1⟩, e1, s1, hs1⟩
  have hl1 : w1.heap[l]? = some (.loop r) := by
    rw [hs1.frame l hll (fun n hn => by simp at hn; exact hlb hn.2)]; exact hw
  refine ⟨_, run_beginRound hl1 hst, ?_⟩
  obtain ⟨w2, hw2⟩ : ∃ w2, w2 = w1.putObj l (.loop { r with state := .busy }) := ⟨_, rfl⟩
  rw [← hw2, hbod]
  refine wpIn_block ?_
  have hl1s : l < w1.heap.size := (Array.getElem?_eq_some_iff.1 hl1).1
  have hl2 : w2.heap[l]? = some (.loop { r with state := .busy }) := by rw [hw2]; exact World.putObj_heap_same hl1s
  have hs2 : w2.heap.size = w1.heap.size := by rw [hw2]; exact World.putObj_size
  have hB1 : e1.B (.b b) = b := hs1.bnB b
  have hb2 : w2.heap[b]? = some (.cells #[acc] ty (0, 0)) := by
    rw [hw2, World.putObj_heap_other (Ne.symm hlb)]
    have := hs1.own.holds (.b b) (.box [.v acc] ty) (by rw [hth1]; simp [fd])
    obtain ⟨zs, hz1, hz2⟩ := this
    rw [isL_one hz2, hB1] at hz1
    exact hz1
  have hkeep : ∀ i z, fd st1.tm i = some z → z.is e1 (Cx.slot ⟨w, Hp.zip, r.tmps.size, [(b, b)], fun _ => undef, []⟩ a1 i) := hs1.tm
  have hS2 : Sat1 ⟨w2, Hp.zip, r.tmps.size, [(b, b)], fun _ => undef, []⟩ ⟨st1.tm, st1.th, .tt⟩ e1 Hp.zip a1 w2 := by
    have one : ∀ k t, fd [(Key.b b, Thing.box [.v acc] ty)] k = some t → k = .b b ∧ t = .box [.v acc] ty := by
      intro k t h
      simp only [fd] at h
      split at h
      · rename_i hk; exact ⟨hk.symm, (Option.some.inj h).symm⟩
      · cases h
    refine { size := hs1.size, ntB := hs1.ntB, nodef := hs1.nodef, tm := hkeep, own := ⟨?_, ?_, ?_⟩, fresh := ?_, inw := ⟨(fun _ _ _ h => by cases h), (fun _ _ h => by cases h), (fun _ _ h => by cases h)⟩, ge := Hp.le_refl _, new := fun g h => (Hp.zip_has h).elim, fact := trivial, os := rfl, tape := rfl, output := rfl, grow := Nat.le_refl _, frame := fun _ _ _ => rfl, borB := fun n g h => hs1.borB n g h, bnB := hs1.bnB }
    · intro k t h
      rw [show (St.th ⟨st1.tm, st1.th, .tt⟩) = st1.th from rfl, hth1] at h
      obtain ⟨rfl, rfl⟩ := one k t h
      exact ⟨#[acc], by rw [hB1]; exact hb2, by simp [SV.isL, SV.is]⟩
    · intro k k' t t' g h h' _ _
      rw [show (St.th ⟨st1.tm, st1.th, .tt⟩) = st1.th from rfl, hth1] at h h'
      rw [(one k t h).1, (one k' t' h').1]
    · intro k t g _ _ hs
      exact Hp.zip_has hs
    · intro k t g h hg
      rw [show (St.th ⟨st1.tm, st1.th, .tt⟩) = st1.th from rfl, hth1] at h
      obtain ⟨rfl, rfl⟩ := one k t h
      simp only [Thing.blk, Option.some.injEq] at hg
      rw [hB1] at hg
      subst hg
      exact .inr ⟨b, by simp⟩
  have h2 := sq1_ok (P := P) (Qp := fun _ _ => False) hdb bops.toList 0 [] (by simp) _ _ _ _ _ hb1 hS2
  refine wpIn_region (ops_inRound hnb l _ _ _ (ops_mono_tame htb ?_ ?_ _ _ _ (by rw [List.range_eq_range']; simpa using h2)))
  rotate_left
  · rintro c a2 w3 ⟨_, _, _, hf, _⟩; exact hf.elim
  rintro a2 w3 ⟨st2, hbx2, e2, s2, hs3⟩
  have hl3 : w3.heap[l]? = some (.loop { r with state := .busy }) := by
    rw [hs3.frame l (by show l < w2.heap.size; rw [hs2]; exact hl1s) (fun n hn => by simp at hn; exact hlb hn.2)]; exact hl2
  have hend := run_endRound (P := P) none hl3
  refine ⟨_, _, hend, ?_⟩
  have hrec : ({ ({ r with state := .busy } : Loop) with state := if (none : Option Code).isNone then .ready else .done, pending := none } : Loop) = r := by
    cases r
    simp only at hst hpe
    subst hst; subst hpe
    rfl
  rw [hrec]
  have hl3s : l < w3.heap.size := (Array.getElem?_eq_some_iff.1 hl3).1
  have hB2 : e2.B (.b b) = b := hs3.bnB b
  obtain ⟨zs, hz1, hz2⟩ := hs3.own.holds _ _ hbx2
  have hzs : zs = #[step acc y] := isL_one hz2
  rw [hzs, hB2] at hz1
  have hoth : ∀ g, g < w.heap.size → g ≠ b → (w3.putObj l (.loop r)).heap[g]? = w.heap[g]? := by
    intro g hg hgb
    by_cases hgl : g = l
    · subst hgl
      rw [World.putObj_heap_same hl3s, hw]
    · rw [World.putObj_heap_other hgl, hs3.frame g (by show g < w2.heap.size; have h8 : w.heap.size ≤ w1.heap.size := hs1.grow; omega) (fun n hn => by simp at hn; exact hgb hn.2), hw2, World.putObj_heap_other hgl, hs1.frame g hg (fun n hn => by simp at hn; exact hgb hn.2)]
  refine ⟨_, _, e, s, hk, hs.turned (w' := w3.putObj l (.loop r)) (t := .box [.v (step acc y)] ty) hbox (g := b) (by simp [Thing.blk, hB]) ⟨#[step acc y], ?_, by simp [SV.isL, SV.is]⟩ rfl hoth ?_ ?_ ?_ ?_, by simp [SV.is]⟩
  · rw [hB, World.putObj_heap_other (Ne.symm hlb)]; exact hz1
  · show w3.os = w.os
    rw [hs3.os]; show w2.os = w.os; rw [hw2]; exact hs1.os
  · show w3.tape = w.tape
    rw [hs3.tape]; show w2.tape = w.tape; rw [hw2]; exact hs1.tape
  · show w3.output = w.output
    rw [hs3.output]; show w2.output = w.output; rw [hw2]; exact hs1.output
  · rw [World.putObj_size]
    have h8 := hs3.grow
    have h9 := hs1.grow
    simp only at h8 h9
    omega
end Go.Proofs.YtmamodnpghlgcaaDoor
/- A range over a function: the statement; a function that holds one. -/
set_option linter.unusedVariables false
set_option linter.unusedSimpArgs false
namespace Go.Proofs.YtmamodnpghlgcaaDoor
open Go.RowKit

def QLR (cx : Cx) (Q Q2 : SEx → St → Prop) (ex : Exit) (a : Act) (w : World) : Prop :=
  QL cx Q ex a w ∨ ∃ (D : Nat) (sL : Hp), cx.s0.le sL ∧ (∀ g, sL.has g → cx.s0.has g ∨ cx.w0.heap.size ≤ g) ∧ sL.ob D = some (.deferred (some [])) ∧ cx.w0.heap.size ≤ D ∧ QL { cx with s0 := sL, dfs := [{ target := .collected D, args := #[] }] } Q2 ex a w
/-- Code that may hold a range over a function; what is so without and behind it. -/
def SCR (P : Program) (nt : Nat) (c : Code) (st : St) (Q Q2 : SEx → St → Prop) : Prop :=
  ∀ cx, cx.nt = nt → cx.dfs = [] → cx.bor = [] → okC nt c = true → ∀ a w, Sat cx st a w → c.wp P (QLR cx Q Q2) a w
section
variable {P : Program} {nt : Nat} {st : St} {Q Q2 : SEx → St → Prop}
theorem SCR.of_SC {c : Code} (h : SC P nt c st Q) : SCR P nt c st Q Q2 := fun cx hn _ _ hok a w hs => wp_mono (h cx hn hok a w hs) fun _ _ _ hq => .inl hq
theorem SCR.seqN {x y : Code} (tl : List Nat) (kl : List Key) (h : ∀ K : St → Prop, (∀ st, SCR P nt y st Q Q2 → K st) → SC P nt x st (thenK (fun st => K (st.norm tl kl)) Q)) : SCR P nt (.seq x y) st Q Q2 := by
  intro cx hn hd hb hok a w hs
  simp only [okC, Bool.and_eq_true] at hok
  refine wp_seq (wp_mono (h (fun st => SCR P nt y st Q Q2) (fun _ h => h) cx hn hok.1 a w hs) fun e a w hq => ?_)
  cases e with
  | normal =>
    obtain ⟨st', h1, h2⟩ := hq
    exact h1 cx hn hd hb hok.2 a w (Le.norm st' tl kl cx a w h2)
  | _ => exact .inl hq
/-- A part of code, and what stands behind it. -/
def SCP (P : Program) (nt : Nat) (z y : Code) (st : St) (Q Q2 : SEx → St → Prop) : Prop :=
  ∀ cx, cx.nt = nt → cx.dfs = [] → cx.bor = [] → okC nt z = true → okC nt y = true → ∀ a w, Sat cx st a w → z.wp P (Exit.then (y.wp P (QLR cx Q Q2)) (QLR cx Q Q2)) a w
theorem SCR.seq2 {x z y : Code} (tl : List Nat) (kl : List Key) (h : ∀ K : St → Prop, (∀ st, SCP P nt z y st Q Q2 → K st) → SC P nt x st (thenK (fun st => K (st.norm tl kl)) Q)) : SCR P nt (.seq (.seq x z) y) st Q Q2 := by
  intro cx hn hd hb hok a w hs
  simp only [okC, Bool.and_eq_true] at hok
  refine wp_seq (wp_seq (wp_mono (h (fun st => SCP P nt z y st Q Q2) (fun _ h => h) cx hn hok.1.1 a w hs) fun e a w hq => ?_))
  cases e with
  | normal =>
    obtain ⟨st', h1, h2⟩ := hq
    exact h1 cx hn hd hb hok.1.2 hok.2 a w (Le.norm st' tl kl cx a w h2)
  | _ => exact .inl hq
def calleeQ (b : Nat) (ty : TypeId) (accN : Value) : SEx → St → Prop
  | .nrm, st => fd st.th (.b b) = some (.box [.v accN] ty)
  | .ret, st => fd st.th (.b b) = some (.box [.v accN] ty)
  | _, _ => False
theorem calleeQ_nrm (b : Nat) (ty : TypeId) (accN : Value) (st : St) : calleeQ b ty accN .nrm st = (fd st.th (.b b) = some (.box [.v accN] ty)) := rfl
theorem calleeQ_ret (b : Nat) (ty : TypeId) (accN : Value) (st : St) : calleeQ b ty accN .ret st = (fd st.th (.b b) = some (.box [.v accN] ty)) := rfl
theorem SCR.range {rest gc : Code} {i0 gt p pa ia ib ic gf : Nat} {aops bops : Array Oper} {lb : Array Value} {gfn : Func} {ka : Key} {acc0 accN : Value} {ty : TypeId} {ok : Value → Value → Prop} {step : Value → Value → Value}
    (hgv : fd st.tm gt = some (.v (.func (.func gf) #[] lb))) (hgt : gt < 1000000) (hpa : fd st.tm pa = some (.own ka 0)) (hka : fd st.th ka = some (.box [.v acc0] ty))
    (hp : p < nt) (hpan : pa < nt) (hne : p ≠ pa) (hda : dstL nt aops.toList = true) (hdb : dstL nt bops.toList = true) (hna : noDef aops = true) (hnb : noDef bops = true) (hta : aops.all tame = true) (htb : bops.all tame = true) (hR : RoundOK P nt p pa ty aops bops ok step)
    (hfn : P.funcs[gf]? = some gfn) (hgb : gfn.body = some gc) (hgn : lb.size + 1 ≤ gfn.ntmps) (hgn2 : gfn.ntmps ≤ 1000000) (hgok : okC gfn.ntmps gc = true) (hgr : gfn.results = #[]) (hok1 : fnOK P gf = true)
    (hcallee : ∀ (l b : Nat) (r : Obj), (∀ (st : St) (k : SV → St → Prop) (Qp : Value → St → Prop) (acc x : Value), ok acc x → fd st.th (.b b) = some (.box [.v acc] ty) → st.F.to (obF l r) → k (.v (.bool true)) { st with th := up st.th (.b b) (.box [.v (step acc x)] ty) } → yieldL P l [.v x] st k Qp) →
      SC P gfn.ntmps gc ⟨tmS 0 (.v (.func (.yield l) #[] #[]) :: lb.toList.map .v) [], [(.b b, .box [.v acc0] ty)], st.F.and (obF l r)⟩ (calleeQ b ty accN))
    (hrest : SC P nt rest ⟨st.tm, up st.th ka (.box [.v accN] ty), st.F⟩ Q2) : SCP P nt (.block i0 (.rangeFunc (.tmp gt) #[p] (.region ia aops false) (.block ib (.region ic bops false)))) rest st Q Q2 := by
  intro cx hn hd hbor hok0 hok a w ⟨e, s, hs⟩
  have hev : a.eval (.tmp gt) = .func (.func gf) #[] lb := by
    have := hs.tm gt _ hgv
    rw [is_v, Cx.slot, if_pos hgt] at this
    exact this
  obtain ⟨b, hb⟩ : ∃ b, b = e.B ka := ⟨_, rfl⟩
  have hpt : a.tmps.getD pa undef = .pointer (some ⟨b, 0, none⟩) := by
    have := hs.tm pa _ hpa
    have hnt := hs.ntB
    rw [Cx.slot, if_pos (by omega)] at this
    simp only [SV.is] at this
    rw [this, hb]
  obtain ⟨ys, hys, hly⟩ := hs.own.holds _ _ hka
  have hys2 : ys = #[acc0] := isL_one hly
  subst hys2
  rw [← hb] at hys
  have hbl : b < w.heap.size := (Array.getElem?_eq_some_iff.1 hys).1
  refine wp_block ((wpIn_wide (n := 1)).1 (wpIn_rangeFunc fun fn _ => ?_))
  obtain ⟨r, hr⟩ : ∃ r : Loop, r = { state := .ready, pending := none, fn, tmps := a.tmps, params := #[p], assign := .region ia aops false, body := .block ib (.region ic bops false), defers := w.heap.size } := ⟨_, rfl⟩
  obtain ⟨W1, hW1⟩ : ∃ W1, W1 = (w.alloc (.deferred (some []))).alloc (.loop r) := ⟨_, rfl⟩
  obtain ⟨l, hl⟩ : ∃ l, l = w.heap.size + 1 := ⟨_, rfl⟩
  have hsz1 : W1.heap.size = w.heap.size + 2 := by rw [hW1]; simp
  have hold : ∀ g, g < w.heap.size → W1.heap[g]? = w.heap[g]? := by
    intro g hg
    rw [hW1, Below.heap_alloc _ _ _ (by simp; omega), Below.heap_alloc _ _ _ hg]
  have hL1 : W1.heap[l]? = some (.loop r) := by
    rw [hW1, hl]; have := World.alloc_heap_new (w.alloc (.deferred (some []))) (.loop r); rwa [World.size_alloc] at this
  have hD1 : W1.heap[w.heap.size]? = some (.deferred (some [])) := by
    rw [hW1]; exact (Below.heap_alloc _ _ _ (by simp)).trans (World.alloc_heap_new w _)
  refine ⟨l, [{ target := .collected w.heap.size, args := #[] }], W1, { target := .fn (.func gf) lb, args := #[.func (.yield l) #[] #[]] }, W1, gf, #[.func (.yield l) #[] #[]] ++ lb, W1, ?_, ?_, fun _ _ => trivial, ?_, fun _ => Nat.le_refl _, ?_⟩
  · rw [hW1, hl, hr]; exact run_enterLoop_outer _ _ _ _ _
  · simp only [resolve, hev]
    simp [go_sem, Act.eval]
  · simp only [invoke]
    exact fnOK_run hok1 _ W1
  refine callsIn_wide.2 (calls_of_wp hfn hgb ?_)
  -- the iterator
  let sC : Hp := ⟨s.cell, s.mp, fun g => if g = l then some (.loop r) else s.ob g⟩
  let cxC : Cx := ⟨W1, sC, gfn.ntmps, [(b, b)], fun _ => undef, []⟩
  have hsC : s.le sC := by
    refine ⟨fun _ _ _ h => h, fun _ _ h => h, fun g o ho => ?_⟩
    have hlt := Hp.has_lt hs.inw (.inr (.inr ⟨o, ho⟩))
    show (if g = l then _ else s.ob g) = _
    rw [if_neg (by omega)]; exact ho
  have hhasC : ∀ g, sC.has g → s.has g ∨ g = l := by
    rintro g (h | h | ⟨o, h⟩)
    · exact .inl (.inl h)
    · exact .inl (.inr (.inl h))
    · change (if g = l then _ else s.ob g) = some o at h
      split at h
      · rename_i hg; exact .inr hg
      · exact .inl (.inr (.inr ⟨o, h⟩))
  have one : ∀ k t, fd [(Key.b b, Thing.box [.v acc0] ty)] k = some t → k = .b b ∧ t = .box [.v acc0] ty := by
    intro k t h
    simp only [fd] at h
    split at h
    · rename_i hk; exact ⟨hk.symm, (Option.some.inj h).symm⟩
    · cases h
  have hSC : Sat1 cxC ⟨tmS 0 (.v (.func (.yield l) #[] #[]) :: lb.toList.map .v) [], [(.b b, .box [.v acc0] ty)], st.F.and (obF l (.loop r))⟩ Env.start sC { tmps := (#[.func (.yield l) #[] #[]] ++ lb) ++ Array.replicate (gfn.ntmps - (#[Value.func (.yield l) #[] #[]] ++ lb).size) undef, defers := [] } W1 := by
    refine { size := ?_, ntB := hgn2, nodef := rfl, tm := ?_, own := ⟨?_, ?_, ?_⟩, fresh := ?_, inw := ⟨?_, ?_, ?_⟩, ge := Hp.le_refl _, new := fun g h => .inl h, fact := ⟨st.F.mono _ _ hsC hs.fact, ?_⟩, os := rfl, tape := rfl, output := rfl, grow := Nat.le_refl _, frame := fun _ _ _ => rfl, borB := ?_, bnB := fun _ => rfl }
    · simp only [Array.size_append, Array.size_replicate, List.size_toArray, List.length_cons, List.length_nil]
      show _ = gfn.ntmps
      omega
    · intro i x hx
      rcases fd_tmS _ _ _ _ _ hx with ⟨_, h1⟩ | h1
      · rw [Nat.sub_zero] at h1
        have h2 : ((#[Value.func (.yield l) #[] #[]] ++ lb).toList.map SV.v)[i]? = some x := by simpa using h1
        rw [List.getElem?_map, Option.map_eq_some_iff] at h2
        obtain ⟨y, h3, rfl⟩ := h2
        have hlt : i < (#[Value.func (.yield l) #[] #[]] ++ lb).size := by
          have := (List.getElem?_eq_some_iff.1 h3).1
          rwa [Array.length_toList] at this
        have hlt2 : i < 1000000 := by
          simp only [Array.size_append, List.size_toArray, List.length_cons, List.length_nil] at hlt
          omega
        rw [is_v, Cx.slot, if_pos hlt2, Array.getD_eq_getD_getElem?, Array.getElem?_append_left hlt, ← Array.getElem?_toList, h3]
        rfl
      · cases h1
    · intro k t h
      obtain ⟨rfl, rfl⟩ := one k t h
      refine ⟨#[acc0], ?_, by simp [SV.isL, SV.is]⟩
      show W1.heap[b]? = _
      rw [hold b hbl]; exact hys
    · intro k k' t t' g h h' _ _
      rw [(one k t h).1, (one k' t' h').1]
    · intro k t g h hg hh
      obtain ⟨rfl, rfl⟩ := one k t h
      simp only [Thing.blk, Option.some.injEq] at hg
      have hg' : b = g := hg
      subst hg'
      rcases hhasC b hh with h1 | h1
      · exact hs.own.free ka _ b hka (by simp [Thing.blk, hb]) h1
      · omega
    · intro k t g h hg
      obtain ⟨rfl, rfl⟩ := one k t h
      simp only [Thing.blk, Option.some.injEq] at hg
      have hg' : b = g := hg
      subst hg'
      exact .inr ⟨b, by simp [cxC]⟩
    · intro g o v hv
      rw [World.cell?_of_block (hold g (Hp.has_lt hs.inw (.inl ⟨o, v, hv⟩)))]
      exact hs.inw.cell g o v hv
    · intro g m hm
      rw [hold g (Hp.has_lt hs.inw (.inr (.inl ⟨m, hm⟩)))]
      exact hs.inw.mp g m hm
    · intro g o ho
      change (if g = l then _ else s.ob g) = some o at ho
      split at ho
      · rename_i hg; subst hg; cases ho; exact hL1
      · rw [hold g (Hp.has_lt hs.inw (.inr (.inr ⟨o, ho⟩)))]
        exact hs.inw.ob g o ho
    · show (if l = l then some (Obj.loop r) else s.ob l) = some (.loop r)
      rw [if_pos rfl]
    · intro n g h
      simp only [cxC, List.mem_singleton, Prod.mk.injEq] at h
      obtain ⟨rfl, rfl⟩ := h
      rfl
  have hrt : r.tmps.size = nt := by rw [hr]; show a.tmps.size = nt; rw [hs.size, hn]
  have hntB : nt ≤ 1000000 := by rw [← hn]; exact hs.ntB
  have hY := hcallee l b (.loop r) fun st k Qp acc x h0 h1 h2 h3 => yield_ok (r := r) (p := p) (pa := pa) (ia := ia) (ib := ib) (ic := ic) (aops := aops) (bops := bops) (ok := ok) (step := step) (by rw [hr]) (by rw [hr]) (by rw [hr]) (by rw [hr]) (by rw [hr]) (by omega) (by omega) (by omega) hne (by rw [hr]; exact hpt) (by rw [hrt]; exact hda) (by rw [hrt]; exact hdb) hna hnb hta htb (by omega) (by rw [hrt]; exact hR) h0 h1 h2 h3
  refine wp_mono (hY cxC rfl hgok _ W1 ⟨_, sC, hSC⟩) fun ex a' W3 hq => ?_
  have fin : ∀ st', fd st'.th (.b b) = some (.box [.v accN] ty) → Sat cxC st' a' W3 → a'.defers = [] ∧ ∃ v, (results gfn a'.tmps).run P W3 = .ok v W3 ∧ rangePost Fence.wide 1 P l (Exit.inBlock i0 (Exit.then (rest.wp P (QLR cx Q Q2)) (QLR cx Q Q2))) { a with defers := [{ target := .collected w.heap.size, args := #[] }] ++ a.defers } (.returned v) W3 := by
    rintro st' h1 ⟨e', s', h2⟩
    refine ⟨h2.nodef, .tuple #[], ?_, ?_⟩
    · unfold results
      rw [hgr]
      simp [Sem.run_bind, Sem.run_pure]
    have hL3 : W3.heap[l]? = some (.loop r) := h2.inw.ob _ _ (h2.ge.2.2 _ _ (by show (if l = l then some (Obj.loop r) else s.ob l) = _; rw [if_pos rfl]))
    have hb3 : W3.heap[b]? = some (.cells #[accN] ty (0, 0)) := by
      obtain ⟨zs, hz1, hz2⟩ := h2.own.holds _ _ h1
      rw [isL_one hz2, h2.bnB b] at hz1
      exact hz1
    have hfr : ∀ g, g < W1.heap.size → g ≠ b → W3.heap[g]? = W1.heap[g]? := fun g hg hgb => h2.frame g hg (fun n hn => by simp [cxC] at hn; exact hgb hn.2)
    have hl3 : l < W3.heap.size := (Array.getElem?_eq_some_iff.1 hL3).1
    obtain ⟨W4, hW4⟩ : ∃ W4, W4 = W3.putObj l (.loop { r with state := .exhausted }) := ⟨_, rfl⟩
    have hend : (Instr.endLoop l).run P W3 = .ok none W4 := by
      have := run_endLoop (P := P) hL3 (by rw [hr]; simp)
      rw [hW4, this]
      rw [hr]
    refine ⟨none, W4, hend, ?_⟩
    show rest.wp P (QLR cx Q Q2) _ W4
    have hoth : ∀ g, g < w.heap.size → g ≠ b → W4.heap[g]? = w.heap[g]? := by
      intro g hg hgb
      rw [hW4, World.putObj_heap_other (by omega), hfr g (by omega) hgb, hold g hg]
    have hS4 : Sat1 cx ⟨st.tm, up st.th ka (.box [.v accN] ty), st.F⟩ e s a W4 := by
      refine hs.turned (w' := W4) (t := .box [.v accN] ty) hka (g := b) (by simp [Thing.blk, hb]) ⟨#[accN], ?_, by simp [SV.isL, SV.is]⟩ rfl hoth ?_ ?_ ?_ ?_
      · rw [← hb, hW4, World.putObj_heap_other (by omega)]; exact hb3
      · rw [hW4]; show W3.os = w.os; rw [h2.os]; show W1.os = w.os; rw [hW1]; rfl
      · rw [hW4]; show W3.tape = w.tape; rw [h2.tape]; show W1.tape = w.tape; rw [hW1]; rfl
      · rw [hW4]; show W3.output = w.output; rw [h2.output]; show W1.output = w.output; rw [hW1]; rfl
      · rw [hW4, World.putObj_size]
        have h8 : W1.heap.size ≤ W3.heap.size := h2.grow
        omega
    let sL : Hp := ⟨s.cell, s.mp, fun g => if g = w.heap.size then some (.deferred (some [])) else s.ob g⟩
    have hsL : s.le sL := by
      refine ⟨fun _ _ _ h => h, fun _ _ h => h, fun g o ho => ?_⟩
      have hlt := Hp.has_lt hs.inw (.inr (.inr ⟨o, ho⟩))
      show (if g = w.heap.size then _ else s.ob g) = _
      rw [if_neg (by omega)]; exact ho
    have hhasL : ∀ g, sL.has g → s.has g ∨ g = w.heap.size := by
      rintro g (h | h | ⟨o, h⟩)
      · exact .inl (.inl h)
      · exact .inl (.inr (.inl h))
      · change (if g = w.heap.size then _ else s.ob g) = some o at h
        split at h
        · rename_i hg; exact .inr hg
        · exact .inl (.inr (.inr ⟨o, h⟩))
    have hD4 : W4.heap[w.heap.size]? = some (.deferred (some [])) := by
      rw [hW4, World.putObj_heap_other (by omega), hfr _ (by omega) (by omega)]; exact hD1
    have hSL : Sat1 { cx with s0 := sL, dfs := [{ target := .collected w.heap.size, args := #[] }] } ⟨st.tm, up st.th ka (.box [.v accN] ty), st.F⟩ e sL { a with defers := [{ target := .collected w.heap.size, args := #[] }] ++ a.defers } W4 := by
      refine { hS4 with nodef := ?_, own := ⟨hS4.own.holds, hS4.own.apart, fun k t g hk hg hh => ?_⟩, inw := ⟨hS4.inw.cell, hS4.inw.mp, fun g o ho => ?_⟩, ge := Hp.le_refl _, new := fun g h => .inl h, fact := st.F.mono _ _ hsL hs.fact }
      · show _ ++ a.defers = _
        rw [hs.nodef, hd]
        rfl
      · rcases hhasL g hh with h3 | h3
        · exact hS4.own.free k t g hk hg h3
        · subst h3
          rw [fd_up] at hk
          split at hk
          · rename_i hkk
            subst hkk
            obtain rfl := Option.some.inj hk
            simp only [Thing.blk, Option.some.injEq] at hg
            omega
          · have := Thing.blk_lt (hs.own.holds k t hk) hg
            omega
      · change (if g = w.heap.size then _ else s.ob g) = some o at ho
        split at ho
        · rename_i hg; subst hg; cases ho; exact hD4
        · exact hS4.inw.ob g o ho
    refine wp_mono (hrest { cx with s0 := sL, dfs := [{ target := .collected w.heap.size, args := #[] }] } hn hok _ W4 ⟨e, sL, hSL⟩) fun ex a5 W5 hq5 => .inr ⟨w.heap.size, sL, Hp.le_trans hs.ge hsL, fun g hg => ?_, by show (if w.heap.size = w.heap.size then _ else _) = _; rw [if_pos rfl], hs.grow, hq5⟩
    rcases hhasL g hg with h3 | h3
    · rcases hs.new g h3 with h4 | h4 | ⟨n, h4⟩
      · exact .inl h4
      · exact .inr h4
      · rw [hbor] at h4; cases h4
    · rw [h3]; exact .inr hs.grow
  cases ex with
  | normal => obtain ⟨st', h1, h2⟩ := hq; exact fin st' h1 h2
  | ret => obtain ⟨st', h1, h2⟩ := hq; exact fin st' h1 h2
  | exit i => obtain ⟨st', h1, h2⟩ := hq; exact h1.elim
  | panic c => obtain ⟨v, st', _, h1, h2⟩ := hq; exact h1.elim
  | outgrown => exact hq.elim
  | goto i => exact hq.elim
end
end Go.Proofs.YtmamodnpghlgcaaDoor
/- A function that holds a range over a function: its contract. -/
set_option linter.unusedVariables false
set_option linter.unusedSimpArgs false
namespace Go.Proofs.YtmamodnpghlgcaaDoor
open Go.RowKit

/-- The mark: from here on new rows never turn. -/
theorem Le.mark (st : St) : Le st ⟨up st.tm 2000000 .any, st.th, st.F⟩ := by
  intro cx a w ⟨e, s, h⟩
  refine ⟨e, s, { h with tm := ?_ }⟩
  intro i x hx
  rw [fd_up] at hx
  split at hx
  · obtain rfl := Option.some.inj hx
    simp [SV.is]
  · exact h.tm i x hx
def allTmp (rs : List ResultVar) : Bool := rs.all fun | .tmp _ => true | _ => false
theorem tmps_anywhere {P : Program} {tmps : Array Value} {w W : World} : ∀ {rs : List ResultVar} {ys : List Value}, allTmp rs = true → (rs.mapM (resF tmps)).run P w = .ok ys w → (rs.mapM (resF tmps)).run P W = .ok ys W
  | [], ys, _, h => by
    simp only [List.mapM_nil, Sem.run_pure] at h ⊢
    cases h; rfl
  | .tmp t :: rs, ys, ha, h => by
    simp only [allTmp, List.all_cons, Bool.true_and] at ha
    simp only [List.mapM_cons, resF, Sem.run_bind, Sem.run_pure, Result.andThen_ok] at h ⊢
    cases h1 : (rs.mapM (resF tmps)).run P w with
    | ok zs w1 =>
      rw [h1] at h
      simp only [Result.andThen_ok, Sem.run_pure] at h
      cases h
      rw [tmps_anywhere (W := W) ha h1]
      rfl
    | halt x w1 => rw [h1] at h; cases h
  | .cell a t :: rs, ys, ha, _ => by simp [allTmp] at ha
theorem Fn.of_bodyRF {P : Program} {f : FuncId} {fn : Func} {c : Code} {args : List Value} {F : Fact} {R0 : Value → Prop} (hf : P.funcs[f]? = some fn) (hb : fn.body = some c) (hn : args.length ≤ fn.ntmps) (hnb : fn.ntmps ≤ 1000000) (hok : okC fn.ntmps c = true) (hrs : allTmp fn.results.toList = true)
    (h : SCR P fn.ntmps c ⟨tm0 0 args, [], F⟩ (fnQ P fn.results fun v _ => R0 v) (fnQ P fn.results fun v _ => R0 v)) : Fn P f args F fun v _ => R0 v := by
  intro s w hin hF
  refine (callsIn_wide (n := 0)).1 (callsIn_of_wp_marks hf hb trivial (wpIn_wide.2 ?_))
  have hs0 := Cx.start (P := P) w s fn args F hin hF hn hnb
  have res : ∀ (cx : Cx) (st : St) (e' : Env) (s' : Hp) (a' : Act) (w' W : World), rsx P st fn.results.toList (outV fun v => R0 v) [] → Sat1 cx st e' s' a' w' → ∃ v, (results fn a'.tmps).run P W = .ok v W ∧ R0 v := by
    intro cx st e' s' a' w' W h1 hs'
    obtain ⟨l', ys, h2, h3, h4⟩ := rsx_run hs' fn.results.toList _ [] [] (by simp [SV.isL]) h1
    unfold outV at h2
    split at h2
    · rename_i vs hv
      rw [vals_spec (e := e') hv, List.nil_append] at h3
      have := SV.isL_map_eq vs h3
      subst this
      refine ⟨tupV ys, ?_, h2⟩
      unfold results
      rw [Sem.run_bind]
      have hm : (fn.results.mapM (resF a'.tmps)).run P W = .ok ys.toArray W := by
        rw [Array.mapM_eq_mapM_toList, ← bind_pure_comp, Sem.run_bind, tmps_anywhere (W := W) hrs h4]; rfl
      change ((Sem.run P (Array.mapM (resF a'.tmps) fn.results) W).andThen _) = _
      rw [hm]
      simp only [Result.andThen_ok, Sem.run_pure]
      congr 1
      cases ys with
      | nil => rfl
      | cons y l => cases l with
        | nil => rfl
        | cons z l => simp [tupV]
    · exact h2.elim
  refine wp_mono (h ⟨w, s, fn.ntmps, [], fun _ => undef, []⟩ rfl rfl rfl hok _ w ⟨_, s, hs0⟩) fun e a' w' hq => ?_
  rcases hq with hq | ⟨D, sL, hle, hhas, hD, hDw, hq⟩
  · have fin : ∀ st, rsx P st fn.results.toList (outV fun v => R0 v) [] → Sat ⟨w, s, fn.ntmps, [], fun _ => undef, []⟩ st a' w' → LeavesInM Fence.wide 0 P fn a'.tmps (FnPost (fun v _ => R0 v) s w) a'.defers .returning w' := by
      rintro st h1 ⟨e', s', hs'⟩
      rw [hs'.nodef]
      obtain ⟨v, h2, h3⟩ := res _ st e' s' a' w' w' h1 hs'
      refine ⟨v, h2, .tt, s', h3, ⟨hs'.ge, hs'.inw, trivial, fun g hg => ?_, ⟨hs'.os, hs'.tape, hs'.output, hs'.grow, fun g hg => hs'.frame g hg (fun n hn => by cases hn)⟩⟩⟩
      rcases hs'.new g hg with h5 | h5 | ⟨n, h5⟩
      · exact .inl h5
      · exact .inr h5
      · cases h5
    cases e with
    | normal => obtain ⟨st, h1, h2⟩ := hq; exact fin st h1 h2
    | ret => obtain ⟨st, h1, h2⟩ := hq; exact fin st h1 h2
    | exit i => obtain ⟨st, h1, h2⟩ := hq; exact h1.elim
    | panic ch => obtain ⟨v, st, _, h1, h2⟩ := hq; exact h1.elim
    | outgrown => trivial
    | goto l => exact hq.elim
  · have fin : ∀ st, rsx P st fn.results.toList (outV fun v => R0 v) [] → Sat ⟨w, sL, fn.ntmps, [], fun _ => undef, [{ target := .collected D, args := #[] }]⟩ st a' w' → LeavesInM Fence.wide 0 P fn a'.tmps (FnPost (fun v _ => R0 v) s w) a'.defers .returning w' := by
      rintro st h1 ⟨e', s', hs'⟩
      rw [hs'.nodef]
      have hob : s'.ob D = some (.deferred (some [])) := hs'.ge.2.2 _ _ hD
      have hDh : w'.heap[D]? = some (.deferred (some [])) := hs'.inw.ob _ _ hob
      obtain ⟨v, h2, h3⟩ := res _ st e' s' a' w' (w'.putObj D (.deferred none)) h1 hs'
      refine ⟨by simp, .inl ⟨D, _, rfl, run_takeDeferred hDh, v, h2, .tt, ⟨s'.cell, s'.mp, fun g => if g = D then none else s'.ob g⟩, h3, ⟨?_, ⟨?_, ?_, ?_⟩, trivial, fun g hg => ?_, ⟨hs'.os, hs'.tape, hs'.output, ?_, fun g hg => ?_⟩⟩⟩⟩
      · have h5 : s.le s' := Hp.le_trans hle hs'.ge
        refine ⟨h5.1, h5.2.1, fun g o ho => ?_⟩
        have hlt := Hp.has_lt hin (.inr (.inr ⟨o, ho⟩))
        have hDw' : w.heap.size ≤ D := hDw
        show (if g = D then none else s'.ob g) = some o
        rw [if_neg (by omega)]
        exact h5.2.2 g o ho
      · intro g o v hv
        have h5 := hs'.inw.cell g o v hv
        have hne : g ≠ D := by
          rintro rfl
          unfold World.cell? at h5
          simp [hDh] at h5
        rw [World.cell?_of_block (World.putObj_heap_other hne)]
        exact h5
      · intro g m hm
        obtain ⟨cc, h5⟩ := hs'.inw.mp g m hm
        have hne : g ≠ D := by
          rintro rfl
          rw [hDh] at h5
          cases h5
        exact ⟨cc, by rw [World.putObj_heap_other hne]; exact h5⟩
      · intro g o ho
        change (if g = D then none else s'.ob g) = some o at ho
        split at ho
        · cases ho
        · rename_i hne
          rw [World.putObj_heap_other hne]
          exact hs'.inw.ob g o ho
      · have h6 : s'.has g := by
          rcases hg with h7 | h7 | ⟨o, h7⟩
          · exact .inl h7
          · exact .inr (.inl h7)
          · change (if g = D then none else s'.ob g) = some o at h7
            split at h7
            · cases h7
            · exact .inr (.inr ⟨o, h7⟩)
        rcases hs'.new g h6 with h5 | h5 | ⟨n, h5⟩
        · exact hhas g h5
        · exact .inr h5
        · cases h5
      · rw [World.putObj_size]; exact hs'.grow
      · have hDw' : w.heap.size ≤ D := hDw
        rw [World.putObj_heap_other (by omega)]
        exact hs'.frame g hg (fun n hn => by cases hn)
    cases e with
    | normal => obtain ⟨st, h1, h2⟩ := hq; exact fin st h1 h2
    | ret => obtain ⟨st, h1, h2⟩ := hq; exact fin st h1 h2
    | exit i => obtain ⟨st, h1, h2⟩ := hq; exact h1.elim
    | panic ch => obtain ⟨v, st, _, h1, h2⟩ := hq; exact h1.elim
    | outgrown => trivial
    | goto l => exact hq.elim
end Go.Proofs.YtmamodnpghlgcaaDoor
/- The contracts of the library's functions at this program: each one application of what the kit's library proves. -/
namespace Go.Proofs
open Go.Shelf
def Tryd.lays156_ren : Go.Shelf.Ren := ⟨fun | 156 => 51 | 165 => 58 | 166 => 59 | 169 => 60 | 240 => 69 | 241 => 70 | 276 => 85 | 277 => 86 | n => n, fun | 31 => 66 | 9 => 9 | 3 => 3 | 4 => 4 | 0 => 0 | 20 => 20 | 72 => 94 | 76 => 88 | 70 => 92 | 37 => 82 | 75 => 87 | 127 => 102 | 164 => 117 | 5 => 5 | 80 => 96 | n => n, fun | n => n⟩
theorem Tryd.lays156 : Go.Proofs.Lays.n156 Tryd.prog Tryd.lays156_ren := {
  mixed := by kernel_rfl
  f156 := Tryd.func51.trans (congrArg some (by kernel_rfl))
  f165 := Tryd.func58.trans (congrArg some (by kernel_rfl))
  f166 := Tryd.func59.trans (congrArg some (by kernel_rfl))
  f169 := Tryd.func60.trans (congrArg some (by kernel_rfl))
  f240 := Tryd.func69.trans (congrArg some (by kernel_rfl))
  f241 := Tryd.func70.trans (congrArg some (by kernel_rfl))
  f276 := Tryd.func85.trans (congrArg some (by kernel_rfl))
  f277 := Tryd.func86.trans (congrArg some (by kernel_rfl))
  t0 := Tryd.underlying0
  a0 := Tryd.isAgg0
  z0 := Tryd.sizeOf0
  v0 := Tryd.zeroValue0
  t3 := Tryd.underlying3
  a3 := Tryd.isAgg3
  z3 := Tryd.sizeOf3
  v3 := Tryd.zeroValue3
  t4 := Tryd.underlying4
  a4 := Tryd.isAgg4
  z4 := Tryd.sizeOf4
  v4 := Tryd.zeroValue4
  t9 := Tryd.underlying9
  a9 := Tryd.isAgg9
  z9 := Tryd.sizeOf9
  v9 := Tryd.zeroValue9
  t20 := Tryd.underlying20
  a20 := Tryd.isAgg20
  z20 := Tryd.sizeOf20
  v20 := Tryd.zeroValue20
  t31 := Tryd.underlying66
  a31 := Tryd.isAgg66
  z31 := Tryd.sizeOf66
  v31 := Tryd.zeroValue66
  t37 := Tryd.underlying82
  a37 := Tryd.isAgg82
  z37 := Tryd.sizeOf82
  v37 := Tryd.zeroValue82
  t70 := Tryd.underlying92
  a70 := Tryd.isAgg92
  z70 := Tryd.sizeOf92
  v70 := Tryd.zeroValue92
  t72 := Tryd.underlying94
  a72 := Tryd.isAgg94
  z72 := Tryd.sizeOf94
  v72 := Tryd.zeroValue94
  t75 := Tryd.underlying87
  a75 := Tryd.isAgg87
  z75 := Tryd.sizeOf87
  v75 := Tryd.zeroValue87
  t76 := Tryd.underlying88
  a76 := Tryd.isAgg88
  z76 := Tryd.sizeOf88
  v76 := Tryd.zeroValue88
  t127 := Tryd.underlying102
  a127 := Tryd.isAgg102
  z127 := Tryd.sizeOf102
  v127 := Tryd.zeroValue102
  t164 := Tryd.underlying117
  a164 := Tryd.isAgg117
  z164 := Tryd.sizeOf117
  v164 := Tryd.zeroValue117 }
theorem Tryd.Builder_Extra_156 : Builder.Extra Tryd.prog Tryd.lays156_ren := {
  sizeBuilder := by kernel_rfl
  liesBuilder := by kernel_rfl
  t5 := Tryd.underlying5
  a5 := Tryd.isAgg5
  z5 := Tryd.sizeOf5
  v5 := Tryd.zeroValue5
  infoByte := by kernel_rfl
  cellsByte := by kernel_rfl
  sizeByte := by kernel_rfl
  neB5 := by decide }
open Go.RowKit in
theorem Tryd.strings_Join (bk o c : Nat) (xs : List ByteArray) (sep : ByteArray) (w : World) (hcells : ∀ (j : Nat) x, xs[j]? = some x → w.cell? ⟨bk, o + j, none⟩ = some (.string x)) (hbk : bk < w.heap.size) (hN : xs.length ≤ 140737488355328) (hcap : xs.length ≤ c) (hlen : (Lib.join (xs.map (·.data.toList)) sep.data.toList).length ≤ 140737488355328) :
    Calls Tryd.prog 51 #[.slice (some ⟨bk, o, none⟩) xs.length c, .string sep] w fun e w' => e = .returned (.string ⟨(Lib.join (xs.map (·.data.toList)) sep.data.toList).toArray⟩) ∧ Below w.heap.size w w' := Any.strings_Join Tryd.lays156 Tryd.Builder_Extra_156 bk o c xs sep w hcells hbk hN hcap hlen
def Tryd.lays137_ren : Go.Shelf.Ren := ⟨fun | 137 => 55 | 217 => 67 | 266 => 80 | n => n, fun | 9 => 9 | 5 => 5 | 3 => 3 | n => n, fun | n => n⟩
theorem Tryd.lays137 : Go.Proofs.Lays.n137 Tryd.prog Tryd.lays137_ren := {
  mixed := by kernel_rfl
  f137 := Tryd.func55.trans (congrArg some (by kernel_rfl))
  f217 := Tryd.func67.trans (congrArg some (by kernel_rfl))
  f266 := Tryd.func80.trans (congrArg some (by kernel_rfl))
  t3 := Tryd.underlying3
  a3 := Tryd.isAgg3
  z3 := Tryd.sizeOf3
  v3 := Tryd.zeroValue3
  t5 := Tryd.underlying5
  a5 := Tryd.isAgg5
  z5 := Tryd.sizeOf5
  v5 := Tryd.zeroValue5
  t9 := Tryd.underlying9
  a9 := Tryd.isAgg9
  z9 := Tryd.sizeOf9
  v9 := Tryd.zeroValue9 }
open Go.RowKit in
theorem Tryd.strings_IndexByte (s : ByteArray) (c : Int) (w : World) :
    Calls Tryd.prog 55 #[.string s, .int .u8 c] w fun e w' => e = .returned (.int .i64 (Lib.indexByte s.data.toList c.toNat.toUInt8)) ∧ w' = w := Any.strings_IndexByte Tryd.lays137 s c w
def Tryd.lays103_ren : Go.Shelf.Ren := ⟨fun | 103 => 35 | 210 => 53 | 206 => 64 | n => n, fun | 9 => 9 | 4 => 4 | 24 => 69 | 3 => 3 | n => n, fun | n => n⟩
theorem Tryd.lays103 : Go.Proofs.Lays.n103 Tryd.prog Tryd.lays103_ren := {
  mixed := by kernel_rfl
  f103 := Tryd.func35.trans (congrArg some (by kernel_rfl))
  f206 := Tryd.func64.trans (congrArg some (by kernel_rfl))
  f210 := Tryd.func53.trans (congrArg some (by kernel_rfl))
  t3 := Tryd.underlying3
  a3 := Tryd.isAgg3
  z3 := Tryd.sizeOf3
  v3 := Tryd.zeroValue3
  t4 := Tryd.underlying4
  a4 := Tryd.isAgg4
  z4 := Tryd.sizeOf4
  v4 := Tryd.zeroValue4
  t9 := Tryd.underlying9
  a9 := Tryd.isAgg9
  z9 := Tryd.sizeOf9
  v9 := Tryd.zeroValue9
  t24 := Tryd.underlying69
  a24 := Tryd.isAgg69
  z24 := Tryd.sizeOf69
  v24 := Tryd.zeroValue69 }
open Go.RowKit in
theorem Tryd.strings_CutPrefix (s p : ByteArray) (w : World) :
    Calls Tryd.prog 35 #[.string s, .string p] w fun e w' => e = .returned (.tuple #[.string ⟨(Lib.trimPrefix s.data.toList p.data.toList).toArray⟩, .bool (Lib.hasPrefix s.data.toList p.data.toList)]) ∧ w' = w := Any.strings_CutPrefix Tryd.lays103 s p w
def Tryd.laysM171_ren : Go.Shelf.Ren := ⟨fun | 171 => 50 | 243 => 57 | 246 => 68 | 283 => 81 | 284 => 82 | 285 => 83 | 286 => 84 | 129 => 95 | 317 => 94 | 318 => 96 | 319 => 97 | 320 => 98 | 337 => 102 | 338 => 103 | n => n, fun | 3 => 3 | 9 => 9 | 2 => 2 | 4 => 4 | 171 => 111 | 0 => 0 | 53 => 112 | 37 => 82 | 5 => 5 | 173 => 115 | 212 => 127 | 51 => 128 | 20 => 20 | 213 => 129 | 46 => 83 | 232 => 142 | 233 => 143 | n => n, fun | 17 => 3 | 18 => 6 | 19 => 7 | n => n⟩
theorem Tryd.laysM171 : Go.Proofs.LaysM.n171 Tryd.prog Tryd.laysM171_ren := {
  mixed := by kernel_rfl
  f129 := Tryd.func95.trans (congrArg some (by kernel_rfl))
  f171 := Tryd.func50.trans (congrArg some (by kernel_rfl))
  f243 := Tryd.func57.trans (congrArg some (by kernel_rfl))
  f246 := Tryd.func68.trans (congrArg some (by kernel_rfl))
  f283 := Tryd.func81.trans (congrArg some (by kernel_rfl))
  f284 := Tryd.func82.trans (congrArg some (by kernel_rfl))
  f285 := Tryd.func83.trans (congrArg some (by kernel_rfl))
  f286 := Tryd.func84.trans (congrArg some (by kernel_rfl))
  f317 := Tryd.func94.trans (congrArg some (by kernel_rfl))
  f318 := Tryd.func96.trans (congrArg some (by kernel_rfl))
  f319 := Tryd.func97.trans (congrArg some (by kernel_rfl))
  f320 := Tryd.func98.trans (congrArg some (by kernel_rfl))
  f337 := Tryd.func102.trans (congrArg some (by kernel_rfl))
  f338 := Tryd.func103.trans (congrArg some (by kernel_rfl))
  t0 := Tryd.underlying0
  a0 := Tryd.isAgg0
  z0 := Tryd.sizeOf0
  v0 := Tryd.zeroValue0
  t2 := Tryd.underlying2
  a2 := Tryd.isAgg2
  z2 := Tryd.sizeOf2
  v2 := Tryd.zeroValue2
  t3 := Tryd.underlying3
  a3 := Tryd.isAgg3
  z3 := Tryd.sizeOf3
  v3 := Tryd.zeroValue3
  t4 := Tryd.underlying4
  a4 := Tryd.isAgg4
  z4 := Tryd.sizeOf4
  v4 := Tryd.zeroValue4
  t5 := Tryd.underlying5
  a5 := Tryd.isAgg5
  z5 := Tryd.sizeOf5
  v5 := Tryd.zeroValue5
  t9 := Tryd.underlying9
  a9 := Tryd.isAgg9
  z9 := Tryd.sizeOf9
  v9 := Tryd.zeroValue9
  t20 := Tryd.underlying20
  a20 := Tryd.isAgg20
  z20 := Tryd.sizeOf20
  v20 := Tryd.zeroValue20
  t37 := Tryd.underlying82
  a37 := Tryd.isAgg82
  z37 := Tryd.sizeOf82
  v37 := Tryd.zeroValue82
  t46 := Tryd.underlying83
  a46 := Tryd.isAgg83
  z46 := Tryd.sizeOf83
  v46 := Tryd.zeroValue83
  t51 := Tryd.underlying128
  a51 := Tryd.isAgg128
  z51 := Tryd.sizeOf128
  v51 := Tryd.zeroValue128
  t53 := Tryd.underlying112
  a53 := Tryd.isAgg112
  z53 := Tryd.sizeOf112
  v53 := Tryd.zeroValue112
  t171 := Tryd.underlying111
  a171 := Tryd.isAgg111
  z171 := Tryd.sizeOf111
  v171 := Tryd.zeroValue111
  t173 := Tryd.underlying115
  a173 := Tryd.isAgg115
  z173 := Tryd.sizeOf115
  v173 := Tryd.zeroValue115
  t212 := Tryd.underlying127
  a212 := Tryd.isAgg127
  z212 := Tryd.sizeOf127
  v212 := Tryd.zeroValue127
  t213 := Tryd.underlying129
  a213 := Tryd.isAgg129
  z213 := Tryd.sizeOf129
  t232 := Tryd.underlying142
  a232 := Tryd.isAgg142
  z232 := Tryd.sizeOf142
  v232 := Tryd.zeroValue142
  t233 := Tryd.underlying143
  a233 := Tryd.isAgg143
  z233 := Tryd.sizeOf143
  v233 := Tryd.zeroValue143
  g17 := by kernel_rfl
  g18 := by kernel_rfl
  g19 := by kernel_rfl
  i0 := by kernel_rfl
  i2 := by kernel_rfl
  i3 := by kernel_rfl
  i4 := by kernel_rfl
  i5 := by kernel_rfl
  i9 := by kernel_rfl
  i20 := by kernel_rfl
  i37 := by kernel_rfl
  i46 := by kernel_rfl
  i51 := by kernel_rfl
  i53 := by kernel_rfl
  i171 := by kernel_rfl
  i173 := by kernel_rfl
  i212 := by kernel_rfl
  i232 := by kernel_rfl
  i233 := by kernel_rfl
  m17 := by kernel_rfl
  m18 := by kernel_rfl
  m19 := by kernel_rfl }
open Go.RowKit Go.Sort Go.Lib in
theorem Tryd.strconv_Itoa (n : Int) (h0 : -9223372036854775808 ≤ n) (h1 : n ≤ 9223372036854775807) (w : World) (htab : Lib.TabIs Tryd.prog w "internal/strconv.uint64pow10" .u64 Lib.pow10Tab) :
    Calls Tryd.prog 50 #[.int .i64 n] w fun e w' => e = .returned (.string ⟨(Lib.itoa n).toArray⟩) ∧ ∃ k os, w' = grow (w.drewN k) os := Any.strconv_Itoa Tryd.laysM171 n h0 h1 w htab
def Tryd.laysC172_ren : Go.Shelf.Ren := ⟨fun | 172 => 54 | 244 => 65 | 245 => 66 | 247 => 75 | 279 => 76 | 280 => 77 | 281 => 78 | 282 => 79 | 287 => 91 | 316 => 92 | 171 => 50 | 205 => 93 | 321 => 100 | 322 => 101 | 243 => 57 | 246 => 68 | 283 => 81 | 284 => 82 | 285 => 83 | 286 => 84 | 129 => 95 | 317 => 94 | 318 => 96 | 319 => 97 | 320 => 98 | 337 => 102 | 338 => 103 | n => n, fun | 9 => 9 | 3 => 3 | 75 => 87 | 76 => 88 | 4 => 4 | 5 => 5 | 167 => 105 | 37 => 82 | 0 => 0 | 85 => 106 | 2 => 2 | 168 => 108 | 53 => 112 | 175 => 120 | 46 => 83 | 210 => 124 | 127 => 102 | 145 => 140 | 143 => 138 | 21 => 21 | 171 => 111 | 173 => 115 | 212 => 127 | 51 => 128 | 20 => 20 | 213 => 129 | 232 => 142 | 233 => 143 | 80 => 96 | n => n, fun | 15 => 1 | 16 => 2 | 17 => 3 | 18 => 6 | 19 => 7 | n => n⟩
theorem Tryd.laysC172 : Go.Proofs.LaysC.n172 Tryd.prog Tryd.laysC172_ren := {
  mixed := by kernel_rfl
  f129 := Tryd.func95.trans (congrArg some (by kernel_rfl))
  f171 := Tryd.func50.trans (congrArg some (by kernel_rfl))
  f172 := Tryd.func54.trans (congrArg some (by kernel_rfl))
  f205 := Tryd.func93.trans (congrArg some (by kernel_rfl))
  f243 := Tryd.func57.trans (congrArg some (by kernel_rfl))
  f244 := Tryd.func65.trans (congrArg some (by kernel_rfl))
  f245 := Tryd.func66.trans (congrArg some (by kernel_rfl))
  f246 := Tryd.func68.trans (congrArg some (by kernel_rfl))
  f247 := Tryd.func75.trans (congrArg some (by kernel_rfl))
  f279 := Tryd.func76.trans (congrArg some (by kernel_rfl))
  f280 := Tryd.func77.trans (congrArg some (by kernel_rfl))
  f281 := Tryd.func78.trans (congrArg some (by kernel_rfl))
  f282 := Tryd.func79.trans (congrArg some (by kernel_rfl))
  f283 := Tryd.func81.trans (congrArg some (by kernel_rfl))
  f284 := Tryd.func82.trans (congrArg some (by kernel_rfl))
  f285 := Tryd.func83.trans (congrArg some (by kernel_rfl))
  f286 := Tryd.func84.trans (congrArg some (by kernel_rfl))
  f287 := Tryd.func91.trans (congrArg some (by kernel_rfl))
  f316 := Tryd.func92.trans (congrArg some (by kernel_rfl))
  f317 := Tryd.func94.trans (congrArg some (by kernel_rfl))
  f318 := Tryd.func96.trans (congrArg some (by kernel_rfl))
  f319 := Tryd.func97.trans (congrArg some (by kernel_rfl))
  f320 := Tryd.func98.trans (congrArg some (by kernel_rfl))
  f321 := Tryd.func100.trans (congrArg some (by kernel_rfl))
  f322 := Tryd.func101.trans (congrArg some (by kernel_rfl))
  f337 := Tryd.func102.trans (congrArg some (by kernel_rfl))
  f338 := Tryd.func103.trans (congrArg some (by kernel_rfl))
  t0 := Tryd.underlying0
  a0 := Tryd.isAgg0
  z0 := Tryd.sizeOf0
  v0 := Tryd.zeroValue0
  t2 := Tryd.underlying2
  a2 := Tryd.isAgg2
  z2 := Tryd.sizeOf2
  v2 := Tryd.zeroValue2
  t3 := Tryd.underlying3
  a3 := Tryd.isAgg3
  z3 := Tryd.sizeOf3
  v3 := Tryd.zeroValue3
  t4 := Tryd.underlying4
  a4 := Tryd.isAgg4
  z4 := Tryd.sizeOf4
  v4 := Tryd.zeroValue4
  t5 := Tryd.underlying5
  a5 := Tryd.isAgg5
  z5 := Tryd.sizeOf5
  v5 := Tryd.zeroValue5
  t9 := Tryd.underlying9
  a9 := Tryd.isAgg9
  z9 := Tryd.sizeOf9
  v9 := Tryd.zeroValue9
  t20 := Tryd.underlying20
  a20 := Tryd.isAgg20
  z20 := Tryd.sizeOf20
  v20 := Tryd.zeroValue20
  t21 := Tryd.underlying21
  a21 := Tryd.isAgg21
  z21 := Tryd.sizeOf21
  v21 := Tryd.zeroValue21
  t37 := Tryd.underlying82
  a37 := Tryd.isAgg82
  z37 := Tryd.sizeOf82
  v37 := Tryd.zeroValue82
  t46 := Tryd.underlying83
  a46 := Tryd.isAgg83
  z46 := Tryd.sizeOf83
  v46 := Tryd.zeroValue83
  t51 := Tryd.underlying128
  a51 := Tryd.isAgg128
  z51 := Tryd.sizeOf128
  v51 := Tryd.zeroValue128
  t53 := Tryd.underlying112
  a53 := Tryd.isAgg112
  z53 := Tryd.sizeOf112
  v53 := Tryd.zeroValue112
  t75 := Tryd.underlying87
  a75 := Tryd.isAgg87
  z75 := Tryd.sizeOf87
  v75 := Tryd.zeroValue87
  t76 := Tryd.underlying88
  a76 := Tryd.isAgg88
  z76 := Tryd.sizeOf88
  v76 := Tryd.zeroValue88
  t85 := Tryd.underlying106
  a85 := Tryd.isAgg106
  z85 := Tryd.sizeOf106
  v85 := Tryd.zeroValue106
  t127 := Tryd.underlying102
  a127 := Tryd.isAgg102
  z127 := Tryd.sizeOf102
  v127 := Tryd.zeroValue102
  t143 := Tryd.underlying138
  a143 := Tryd.isAgg138
  z143 := Tryd.sizeOf138
  v143 := Tryd.zeroValue138
  t145 := Tryd.underlying140
  a145 := Tryd.isAgg140
  z145 := Tryd.sizeOf140
  v145 := Tryd.zeroValue140
  t167 := Tryd.underlying105
  a167 := Tryd.isAgg105
  z167 := Tryd.sizeOf105
  v167 := Tryd.zeroValue105
  t168 := Tryd.underlying108
  a168 := Tryd.isAgg108
  z168 := Tryd.sizeOf108
  v168 := Tryd.zeroValue108
  t171 := Tryd.underlying111
  a171 := Tryd.isAgg111
  z171 := Tryd.sizeOf111
  v171 := Tryd.zeroValue111
  t173 := Tryd.underlying115
  a173 := Tryd.isAgg115
  z173 := Tryd.sizeOf115
  v173 := Tryd.zeroValue115
  t175 := Tryd.underlying120
  a175 := Tryd.isAgg120
  z175 := Tryd.sizeOf120
  v175 := Tryd.zeroValue120
  t210 := Tryd.underlying124
  a210 := Tryd.isAgg124
  z210 := Tryd.sizeOf124
  v210 := Tryd.zeroValue124
  t212 := Tryd.underlying127
  a212 := Tryd.isAgg127
  z212 := Tryd.sizeOf127
  v212 := Tryd.zeroValue127
  t213 := Tryd.underlying129
  a213 := Tryd.isAgg129
  z213 := Tryd.sizeOf129
  t232 := Tryd.underlying142
  a232 := Tryd.isAgg142
  z232 := Tryd.sizeOf142
  v232 := Tryd.zeroValue142
  t233 := Tryd.underlying143
  a233 := Tryd.isAgg143
  z233 := Tryd.sizeOf143
  v233 := Tryd.zeroValue143
  g15 := by kernel_rfl
  g16 := by kernel_rfl
  g17 := by kernel_rfl
  g18 := by kernel_rfl
  g19 := by kernel_rfl
  t80 := Tryd.underlying96
  a80 := Tryd.isAgg96
  z80 := Tryd.sizeOf96
  v80 := Tryd.zeroValue96
  i0 := by kernel_rfl
  i2 := by kernel_rfl
  i3 := by kernel_rfl
  i4 := by kernel_rfl
  i5 := by kernel_rfl
  i9 := by kernel_rfl
  i20 := by kernel_rfl
  i21 := by kernel_rfl
  i37 := by kernel_rfl
  i46 := by kernel_rfl
  i51 := by kernel_rfl
  i53 := by kernel_rfl
  i75 := by kernel_rfl
  i76 := by kernel_rfl
  i80 := by kernel_rfl
  i85 := by kernel_rfl
  i127 := by kernel_rfl
  i143 := by kernel_rfl
  i145 := by kernel_rfl
  i167 := by kernel_rfl
  i168 := by kernel_rfl
  i171 := by kernel_rfl
  i173 := by kernel_rfl
  i175 := by kernel_rfl
  i210 := by kernel_rfl
  i212 := by kernel_rfl
  i232 := by kernel_rfl
  i233 := by kernel_rfl
  m15 := by kernel_rfl
  m16 := by kernel_rfl
  m17 := by kernel_rfl
  m18 := by kernel_rfl
  m19 := by kernel_rfl
  c0 := by kernel_rfl
  c2 := by kernel_rfl
  c3 := by kernel_rfl
  c4 := by kernel_rfl
  c5 := by kernel_rfl
  c9 := by kernel_rfl
  c20 := by kernel_rfl
  c21 := by kernel_rfl
  c37 := by kernel_rfl
  c46 := by kernel_rfl
  c51 := by kernel_rfl
  c53 := by kernel_rfl
  c75 := by kernel_rfl
  c76 := by kernel_rfl
  c80 := by kernel_rfl
  c85 := by kernel_rfl
  c127 := by kernel_rfl
  c143 := by kernel_rfl
  c145 := by kernel_rfl
  c167 := by kernel_rfl
  c168 := by kernel_rfl
  c171 := by kernel_rfl
  c173 := by kernel_rfl
  c175 := by kernel_rfl
  c210 := by kernel_rfl
  c212 := by kernel_rfl
  c213 := by kernel_rfl
  c232 := by kernel_rfl
  c233 := by kernel_rfl }
open Go.RowKit in
theorem Tryd.strconv_Atoi_ok (s : ByteArray) (hmax : s.size ≤ 9223372036854775806) (v : Int) (h : Lib.atoiAll s.data.toList = .ok v) (w : World) :
    Calls Tryd.prog 54 #[.string s] w fun e w' => e = .returned (.tuple #[.int .i64 v, .nilIface]) ∧ (w' = w ∨ ∃ t, w' = Lib.bytesWorld w 5 t) := Any.strconv_Atoi_ok Tryd.laysC172 s hmax v h w
open Go.RowKit in
theorem Tryd.strconv_Atoi_range_var (s : ByteArray) (hlim : s.size ≤ 281474976710656) (h : Lib.atoiAll s.data.toList = .range) (tp : TypeId) (p : Value) (w : World) (hvar : w.var? Tryd.prog "strconv.ErrRange" = some #[.iface tp p]) :
    Calls Tryd.prog 54 #[.string s] w fun e w' => ∃ N, e = .returned (.tuple #[.int .i64 (Lib.atoiSat s.data.toList), .iface 108 (.pointer (some ⟨N, 0, none⟩))]) ∧ w.heap.size ≤ N ∧ w'.heap[N]? = some (.cells #[.string ⟨#[65, 116, 111, 105]⟩, .string s, .iface tp p] 124 (0, 0)) ∧ Below w.heap.size w w' := Any.strconv_Atoi_range_var Tryd.laysC172 s hlim h tp p w hvar
def Tryd.lays146_ren : Go.Shelf.Ren := ⟨fun | 146 => 33 | 221 => 52 | 268 => 61 | 138 => 62 | 143 => 63 | 195 => 71 | 197 => 72 | 218 => 73 | 219 => 74 | 260 => 87 | 217 => 67 | 225 => 88 | 224 => 89 | 267 => 90 | 266 => 80 | 314 => 99 | n => n, fun | 9 => 9 | 31 => 66 | 3 => 3 | 4 => 4 | 0 => 0 | 105 => 103 | 21 => 21 | 5 => 5 | 46 => 83 | 119 => 131 | 139 => 134 | 138 => 133 | 146 => 135 | 51 => 128 | n => n, fun | 1 => 0 | 3 => 4 | 4 => 5 | n => n⟩
theorem Tryd.lays146 : Go.Proofs.Lays.n146 Tryd.prog Tryd.lays146_ren := {
  mixed := by kernel_rfl
  f138 := Tryd.func62.trans (congrArg some (by kernel_rfl))
  f143 := Tryd.func63.trans (congrArg some (by kernel_rfl))
  f146 := Tryd.func33.trans (congrArg some (by kernel_rfl))
  f195 := Tryd.func71.trans (congrArg some (by kernel_rfl))
  f197 := Tryd.func72.trans (congrArg some (by kernel_rfl))
  f217 := Tryd.func67.trans (congrArg some (by kernel_rfl))
  f218 := Tryd.func73.trans (congrArg some (by kernel_rfl))
  f219 := Tryd.func74.trans (congrArg some (by kernel_rfl))
  f221 := Tryd.func52.trans (congrArg some (by kernel_rfl))
  f224 := Tryd.func89.trans (congrArg some (by kernel_rfl))
  f225 := Tryd.func88.trans (congrArg some (by kernel_rfl))
  f260 := Tryd.func87.trans (congrArg some (by kernel_rfl))
  f266 := Tryd.func80.trans (congrArg some (by kernel_rfl))
  f267 := Tryd.func90.trans (congrArg some (by kernel_rfl))
  f268 := Tryd.func61.trans (congrArg some (by kernel_rfl))
  f314 := Tryd.func99.trans (congrArg some (by kernel_rfl))
  t0 := Tryd.underlying0
  a0 := Tryd.isAgg0
  z0 := Tryd.sizeOf0
  v0 := Tryd.zeroValue0
  t3 := Tryd.underlying3
  a3 := Tryd.isAgg3
  z3 := Tryd.sizeOf3
  v3 := Tryd.zeroValue3
  t4 := Tryd.underlying4
  a4 := Tryd.isAgg4
  z4 := Tryd.sizeOf4
  v4 := Tryd.zeroValue4
  t5 := Tryd.underlying5
  a5 := Tryd.isAgg5
  z5 := Tryd.sizeOf5
  v5 := Tryd.zeroValue5
  t9 := Tryd.underlying9
  a9 := Tryd.isAgg9
  z9 := Tryd.sizeOf9
  v9 := Tryd.zeroValue9
  t21 := Tryd.underlying21
  a21 := Tryd.isAgg21
  z21 := Tryd.sizeOf21
  v21 := Tryd.zeroValue21
  t31 := Tryd.underlying66
  a31 := Tryd.isAgg66
  z31 := Tryd.sizeOf66
  v31 := Tryd.zeroValue66
  t46 := Tryd.underlying83
  a46 := Tryd.isAgg83
  z46 := Tryd.sizeOf83
  v46 := Tryd.zeroValue83
  t51 := Tryd.underlying128
  a51 := Tryd.isAgg128
  z51 := Tryd.sizeOf128
  v51 := Tryd.zeroValue128
  t105 := Tryd.underlying103
  a105 := Tryd.isAgg103
  z105 := Tryd.sizeOf103
  v105 := Tryd.zeroValue103
  t119 := Tryd.underlying131
  a119 := Tryd.isAgg131
  z119 := Tryd.sizeOf131
  t138 := Tryd.underlying133
  a138 := Tryd.isAgg133
  z138 := Tryd.sizeOf133
  v138 := Tryd.zeroValue133
  t139 := Tryd.underlying134
  a139 := Tryd.isAgg134
  z139 := Tryd.sizeOf134
  v139 := Tryd.zeroValue134
  t146 := Tryd.underlying135
  a146 := Tryd.isAgg135
  z146 := Tryd.sizeOf135
  v146 := Tryd.zeroValue135
  g1 := by kernel_rfl
  g3 := by kernel_rfl
  g4 := by kernel_rfl }
open Go.RowKit Go.Lib in
theorem Tryd.strings_Split (s sep : ByteArray) (m : Int) (w : World) (hs : s.size < 4294967281) (hm : w.cell? ⟨0, 0, none⟩ = some (.int .i64 m)) (h1 : 1 ≤ sep.size) :
    Calls Tryd.prog 33 #[.string s, .string sep] w fun e w' =>
      e = .returned (.slice (some ⟨w.heap.size, 0, none⟩) (Lib.countB s sep + 1) (Lib.countB s sep + 1)) ∧ w' = w.alloc (.cells ((Lib.splitB sep 0 (Lib.countB s sep) s).map Value.string).toArray 9) := Any.strings_Split Tryd.lays146 (by kernel_rfl) s sep m w hs hm h1
end Go.Proofs
/- The library's functions, by the shelf's contracts. -/

set_option linter.unusedSimpArgs false
set_option linter.unusedVariables false
set_option maxRecDepth 100000
set_option maxHeartbeats 4000000
namespace Go.Proofs.YtmamodnpghlgcaaDoor
open Go.RowKit
theorem Fn.of_calls {P : Program} {f : FuncId} {args : List Value} {F : Fact} {R0 : Value → Prop} (h : ∀ s w, s.inw w → F.p s → Calls P f args.toArray w fun e w' => (∃ v, e = .returned v ∧ R0 v) ∧ Below w.heap.size w w') : Fn P f args F fun v _ => R0 v := by
  intro s w hin hF
  refine (h s w hin hF).mono ?_
  rintro e w' ⟨⟨v, rfl, hv⟩, hb⟩
  exact ⟨.tt, s, hv, ⟨Hp.le_refl s, Hp.inw_of hin (fun g hg => hb.block g (Hp.has_lt hin hg)), trivial, fun g hg => .inl hg, hb⟩⟩
/-- A package-level variable. -/
def varP (s : Hp) (name : String) (Q : Array Value → Prop) : Prop := ∃ g cs ty fr, Tryd.prog.globalNamed name = some g ∧ s.ob g = some (.cells cs ty fr) ∧ Q cs
theorem varP_mono {s t : Hp} (h : s.le t) {name : String} {Q : Array Value → Prop} (k : varP s name Q) : varP t name Q := by
  obtain ⟨g, cs, ty, fr, h1, h2, h3⟩ := k
  exact ⟨g, cs, ty, fr, h1, h.2.2 _ _ h2, h3⟩
theorem varP_var {s : Hp} {w : World} (hin : s.inw w) {name : String} {Q : Array Value → Prop} (k : varP s name Q) : ∃ cs, w.var? Tryd.prog name = some cs ∧ Q cs := by
  obtain ⟨g, cs, ty, fr, h1, h2, h3⟩ := k
  refine ⟨cs, ?_, h3⟩
  unfold World.var?
  rw [h1]
  simp [hin.ob _ _ h2]
/-- What the library's functions read. -/
def libF : Fact := ⟨fun s => varP s "internal/strconv.uint64pow10" (fun cs => cs = (Lib.pow10Tab.map fun z => Value.int .u64 z).toArray) ∧ varP s "internal/bytealg.MaxLen" (fun cs => ∃ m, cs = #[.int .i64 m]) ∧ varP s "strconv.ErrSyntax" (fun cs => ∃ tp p, cs = #[.iface tp p]) ∧ varP s "strconv.ErrRange" (fun cs => ∃ tp p, cs = #[.iface tp p]), fun s t h k => ⟨varP_mono h k.1, varP_mono h k.2.1, varP_mono h k.2.2.1, varP_mono h k.2.2.2⟩⟩
theorem itoa_fn (n : Int) (F : Fact) (hF : F.to libF) (h0 : 0 ≤ n) (h1 : n ≤ 9223372036854775807) : Fn Tryd.prog 50 [.int .i64 n] F fun v _ => v = .string (tx (dec n)) := by
  refine Fn.of_calls fun s w hin hs => ?_
  obtain ⟨cs, h2, h3⟩ := varP_var hin (hF s hs).1
  subst h3
  refine (Tryd.strconv_Itoa n (by omega) h1 w h2).mono ?_
  rintro e w' ⟨rfl, k, os, rfl⟩
  refine ⟨⟨_, rfl, ?_⟩, Go.Lib.below_grow _ _ (Nat.le_refl _) k os⟩
  unfold Lib.itoa
  rw [if_neg (by omega)]
  rfl
theorem indexByte_fn (l : List UInt8) (x : Int) (F : Fact) : Fn Tryd.prog 55 [.string (tx l), .int .u8 x] F fun v _ => v = .int .i64 (Lib.indexByte l x.toNat.toUInt8) := by
  refine Fn.of_calls fun s w hin hs => ?_
  refine (Tryd.strings_IndexByte (tx l) x w).mono ?_
  rintro e w' ⟨rfl, rfl⟩
  exact ⟨⟨_, rfl, rfl⟩, Below.refl _ _⟩
theorem cutPrefix_fn (l p : List UInt8) (F : Fact) : Fn Tryd.prog 35 [.string (tx l), .string (tx p)] F fun v _ => v = .tuple #[.string (tx (Lib.trimPrefix l p)), .bool (Lib.hasPrefix l p)] := by
  refine Fn.of_calls fun s w hin hs => ?_
  refine (Tryd.strings_CutPrefix (tx l) (tx p) w).mono ?_
  rintro e w' ⟨rfl, rfl⟩
  exact ⟨⟨_, rfl, rfl⟩, Below.refl _ _⟩
/-- Some texts, in a row of a caller's, joined. -/
theorem join_fn (xs : List (List UInt8)) (sep : List UInt8) (a : Addr) (c : Nat) (F : Fact) (hF : F.to (cellsF a.block a.off (strs xs))) (ha : a.spot = none) (hne : 0 < xs.length) (hc : xs.length ≤ c) (hxl : xs.length ≤ 1000) (hjl : (Lib.join xs sep).length ≤ 140737488355328) : Fn Tryd.prog 51 [.slice (some a) xs.length c, .string (tx sep)] F fun v _ => v = .string (tx (Lib.join xs sep)) := by
  refine Fn.of_calls fun s w hin hs => ?_
  have hcell : ∀ (j : Nat) x, xs[j]? = some x → w.cell? ⟨a.block, a.off + j, none⟩ = some (.string (tx x)) := fun j x hx => hin.cell _ _ _ (hF s hs j _ (by simp [strs, hx]))
  obtain ⟨b, o, sp⟩ := a
  simp only at ha
  subst ha
  have hmap : (xs.map tx).map (fun b => b.data.toList) = xs := by
    rw [List.map_map]
    have : ((fun b : ByteArray => b.data.toList) ∘ tx) = id := by funext l; simp [tx]
    rw [this, List.map_id]
  have h1 := Tryd.strings_Join b o c (xs.map tx) (tx sep) w (fun j x hx => by
    rw [List.getElem?_map, Option.map_eq_some_iff] at hx
    obtain ⟨y, hy, rfl⟩ := hx
    exact hcell j y hy) (World.block_lt_of_cell? w _ (hcell 0 _ (List.getElem?_eq_getElem hne))) (by simp; omega) (by simpa using hc) (by rw [hmap]; exact hjl)
  rw [List.length_map, hmap] at h1
  refine h1.mono ?_
  rintro e w' ⟨rfl, hb⟩
  exact ⟨⟨_, rfl, rfl⟩, hb⟩
end Go.Proofs.YtmamodnpghlgcaaDoor
/- playlist.lines and its iterator. -/

set_option linter.unusedSimpArgs false
set_option linter.unusedVariables false
set_option maxRecDepth 100000
set_option maxHeartbeats 4000000
namespace Go.Proofs.YtmamodnpghlgcaaDoor
open Go.RowKit
def isLines (p : Pl) (F : Fact) (v : Value) : Prop := ∃ b a c, v = .func (.func 49) #[] #[.pointer (some ⟨b, 0, none⟩)] ∧ F.to (cellsF b 0 [.int .i64 p.first, .slice a p.l.length c, .bool p.done]) ∧ F.to (rowF a (segsC p.l))
theorem lines_fn (p : Pl) (v : Value) (F : Fact) (hp : isPl p F v) : Fn Tryd.prog 31 [v] F fun v G => isLines p G v := by
  obtain ⟨a, c, rfl, hc, hF⟩ := hp
  unfold plV
  refine Fn.of_body Tryd.func31 rfl (Nat.le_of_ble_eq_true rfl) (Nat.le_of_ble_eq_true rfl) (by kernel_rfl) ?_
  refine SC.seqN [1] [.l 1] fun K1 hK1 => SC.region ?_
  simp -implicitDefEqProofs only [push_cast, ↓reduceIte, Nat.reduceEqDiff, Nat.reduceAdd, Nat.reduceMul, Nat.reduceSub, Nat.reduceLeDiff, Nat.reduceLT, reduceCtorEq]
  refine hK1 _ ?_
  clear hK1
  refine SC.frzB (k := .l 1) rfl rfl fun b r => ?_
  simp -implicitDefEqProofs only [push_cast, ↓reduceIte, Nat.reduceEqDiff, Nat.reduceAdd, Nat.reduceMul, Nat.reduceSub, Nat.reduceLeDiff, Nat.reduceLT, reduceCtorEq, St.fz, fzT, fzH]
  refine SC.seqN [2] [.l 1] fun K2 hK2 => SC.region ?_
  simp -implicitDefEqProofs only [push_cast, ↓reduceIte, Nat.reduceEqDiff, Nat.reduceAdd, Nat.reduceMul, Nat.reduceSub, Nat.reduceLeDiff, Nat.reduceLT, reduceCtorEq]
  refine hK2 _ ?_
  clear hK2
  refine SC.ret ?_
  simp -implicitDefEqProofs only [push_cast, ↓reduceIte, Nat.reduceEqDiff, Nat.reduceAdd, Nat.reduceMul, Nat.reduceSub, Nat.reduceLeDiff, Nat.reduceLT, reduceCtorEq, Tryd.f31]
  exact ⟨b, a, c, rfl, Fact.to_right (Fact.to_refl _), Fact.to_left hF⟩
def lineTs (p : Pl) : List (List UInt8) := (liveT ++ dec p.first) :: (p.l.map segT ++ if p.done then [doneT] else [])
def stepT (acc x : Value) : Value := match acc, x with | .string a, .string b => .string (a ++ (b ++ ⟨#[10]⟩)) | a, _ => a
def okT (acc x : Value) : Prop := ∃ a b : List UInt8, acc = .string (tx a) ∧ x = .string (tx b) ∧ a.length + b.length + 1 ≤ 1000000
/-- What the rounds have gathered. -/
def accT (xs : List (List UInt8)) : List UInt8 := xs.flatMap fun x => x ++ [10]
theorem stepT_tx (a b : List UInt8) : stepT (.string (tx a)) (.string (tx b)) = .string (tx (a ++ (b ++ [10]))) := by
  unfold stepT
  simp only [mk_tx, tx_append]
def dgts : ByteArray := ⟨#[48, 49, 50, 51, 52, 53, 54, 55, 56, 57, 97, 98, 99, 100, 101, 102]⟩
theorem shr4 {x : Int} (h0 : 0 ≤ x) (h1 : x ≤ 255) : shrI .u8 x 4 = x / 16 := by
  unfold shrI
  rw [show (2 : Int) ^ min (4 : Int).toNat IntKind.u8.bits = 16 from rfl, Int.fdiv_eq_ediv_of_nonneg _ (by decide)]
theorem and15 {x : Int} (h0 : 0 ≤ x) (h1 : x ≤ 255) : andI .u8 x 15 = x % 16 := by
  obtain ⟨n, rfl⟩ := Int.eq_ofNat_of_zero_le h0
  have hn : n < 256 := by omega
  have : ∀ n : Fin 256, andI .u8 (n.val : Int) 15 = (n.val : Int) % 16 := by decide
  exact this ⟨n, hn⟩
theorem dgts_at {n : Int} (h0 : 0 ≤ n) (h1 : n < 16) : byt ⟨#[48, 49, 50, 51, 52, 53, 54, 55, 56, 57, 97, 98, 99, 100, 101, 102]⟩ n.toNat = ((hexd n).toNat : Int) := by
  obtain ⟨m, rfl⟩ := Int.eq_ofNat_of_zero_le h0
  have hn : m < 16 := by omega
  have : ∀ m : Fin 16, byt ⟨#[48, 49, 50, 51, 52, 53, 54, 55, 56, 57, 97, 98, 99, 100, 101, 102]⟩ ((m.val : Int)).toNat = ((hexd (m.val : Int)).toNat : Int) := by decide
  exact this ⟨m, hn⟩
theorem one2 {v u : Value} (h : v.oneCell' = true) (k : u.oneCell' = true) : ∀ y ∈ [v, u], y.oneCell' = true := fun y hy => by
  simp only [List.mem_cons, List.not_mem_nil, or_false] at hy
  rcases hy with rfl | rfl
  · exact h
  · exact k
theorem idx_dgs (f : Nat → Int) {i : Nat} (h : i < 16) : idx (List.map SV.v (dgs f)) i = some (.v (.int .u8 (f i))) := idx_body f h
def u8v (l : List UInt8) : List Value := (l.map fun x => (x.toNat : Int)).map (Value.int .u8)
theorem u8v_len (l : List UInt8) : (u8v l).length = l.length := by simp [u8v]
theorem u8s_u8v (l : List UInt8) : u8s (u8v l) = some (l.map fun x => (x.toNat : Int)) := u8s_map _
theorem bstr_u8 (l : List UInt8) : bstr (l.map fun x => (x.toNat : Int)) = tx l := by
  rw [bstr_tx, List.map_map]
  congr 1
  have : ((fun n : Int => UInt8.ofNat n.toNat) ∘ fun x : UInt8 => (x.toNat : Int)) = id := by funext x; simp
  rw [this, List.map_id]
attribute [push_cast] calleeQ_nrm calleeQ_ret
theorem take_lines (p : Pl) : (lineTs p).take (p.l.length + 1) = (liveT ++ dec p.first) :: p.l.map segT := by
  unfold lineTs
  rw [List.take_succ_cons, List.take_append_of_le_length (by simp), List.take_of_length_le (by simp)]
theorem accT_app (xs ys : List (List UInt8)) : accT (xs ++ ys) = accT xs ++ accT ys := by simp [accT]
theorem accT_len : ∀ {xs : List (List UInt8)}, (∀ x ∈ xs, x.length ≤ 92) → (accT xs).length ≤ 93 * xs.length
  | [], _ => by simp [accT]
  | x :: l, h => by
    have h1 := accT_len fun y hy => h y (List.mem_cons_of_mem _ hy)
    have h2 := h x (List.mem_cons_self ..)
    have h3 : accT (x :: l) = (x ++ [10]) ++ accT l := rfl
    rw [h3]
    simp only [List.length_append, List.length_cons, List.length_nil]
    omega
theorem lineTs_len {p : Pl} (hv : validB p = true) : ∀ x ∈ lineTs p, x.length ≤ 92 := by
  have hvb := valid_bd hv
  have hfl := dec_len (n := p.first) (by omega)
  intro x hx
  unfold lineTs at hx
  rcases List.mem_cons.1 hx with rfl | hx
  · simp only [List.length_append, liveT, List.length_cons, List.length_nil]; omega
  · rcases List.mem_append.1 hx with hx | hx
    · obtain ⟨s, hs, rfl⟩ := List.mem_map.1 hx
      have := right_bd (valid_seg hv s hs)
      exact segT_len (by omega) (by omega) (by omega)
    · split at hx
      · simp only [List.mem_singleton] at hx; subst hx; simp [doneT]
      · cases hx
theorem accT_take {p : Pl} (hv : validB p = true) (i : Nat) (hi : i ≤ p.l.length) : (accT ((lineTs p).take (i + 1))).length ≤ 20000 := by
  have h1 := accT_len (xs := (lineTs p).take (i + 1)) fun x hx => lineTs_len hv x (List.mem_of_mem_take hx)
  have h2 : ((lineTs p).take (i + 1)).length ≤ i + 1 := by rw [List.length_take]; omega
  have hvb := valid_bd hv
  omega
theorem accT_done {p : Pl} (h : p.done = true) : accT (lineTs p) = accT ((lineTs p).take (p.l.length + 1)) ++ (doneT ++ [10]) := by
  rw [take_lines, show lineTs p = ((liveT ++ dec p.first) :: p.l.map segT) ++ [doneT] by simp [lineTs, h], accT_app]
  rfl
theorem accT_open {p : Pl} (h : p.done = false) : accT (lineTs p) = accT ((lineTs p).take (p.l.length + 1)) := by
  rw [take_lines, show lineTs p = ((liveT ++ dec p.first) :: p.l.map segT) by simp [lineTs, h]]
theorem lines1_walk (p : Pl) (l b bp : Nat) (a : Option Addr) (c : Nat) (o : Obj) (F : Fact) (hFl : F.to libF) (hFb : F.to (cellsF bp 0 [.int .i64 p.first, .slice a p.l.length c, .bool p.done])) (hFr : F.to (rowF a (segsC p.l))) (hFo : F.to (obF l o)) (hv : validB p = true) (hb : ∀ s ∈ p.l, s.BOk)
    (hY : ∀ (st : St) (k : SV → St → Prop) (Qp : Value → St → Prop) (acc x : Value), okT acc x → fd st.th (.b b) = some (.box [.v acc] 9) → st.F.to (obF l o) → k (.v (.bool true)) { st with th := up st.th (.b b) (.box [.v (stepT acc x)] 9) } → yieldL Tryd.prog l [.v x] st k Qp) :
    ∀ cd, Tryd.f49.body = some cd → SC Tryd.prog Tryd.f49.ntmps cd ⟨[(0, .v (.func (.yield l) #[] #[])), (1, .v (.pointer (some ⟨bp, 0, none⟩)))], [(.b b, .box [.v (.string (tx []))] 9)], F⟩ (calleeQ b 9 (.string (tx (accT (lineTs p))))) := by
  intro cd hcd
  change some _ = some cd at hcd
  obtain rfl := Option.some.inj hcd
  clear hcd
  have hFb2 : F.to (rowF (some ⟨bp, 0, none⟩) [.int .i64 p.first, .slice a p.l.length c, .bool p.done]) := fun s hs => .inr ⟨_, rfl, rfl, fun j v hv => hFb s hs j v hv⟩
  have hvb := valid_bd hv
  have hvs := fun s hs => right_bd (valid_seg hv s hs)
  have hfl := dec_len (n := p.first) (by omega)
  refine SC.seqN [0, 1] [.l 34, .l 35, .l 49, .b b, .l 900] fun K1 hK1 => ?_
  refine SC.seqN [0, 1, 14] [.l 34, .l 35, .l 49, .b b, .l 900] fun K2 hK2 => SC.region ?_
  simp -implicitDefEqProofs only [push_cast, ↓reduceIte, Nat.reduceEqDiff, Nat.reduceAdd, Nat.reduceMul, Nat.reduceSub, Nat.reduceLeDiff, Nat.reduceLT, reduceCtorEq]
  suffices key2 : ∀ s, s = tx (accT ((lineTs p).take 1)) → K2 ⟨[(0, .v (.func (.yield l) #[] #[])), (1, .v (.pointer (some ⟨bp, 0, none⟩))), (14, .v (.bool false))], [(.b b, .box [.v (.string s)] 9)], F⟩ by
    clear hK1 hK2
    refine loadF_one (a := some ⟨bp, 0, none⟩) (.int .i64 p.first) hFb2 rfl ?_
    simp -implicitDefEqProofs only [push_cast, ↓reduceIte, Nat.reduceEqDiff, Nat.reduceAdd, Nat.reduceMul, Nat.reduceSub, Nat.reduceLeDiff, Nat.reduceLT, reduceCtorEq]
    refine callL_fn0 (itoa_fn p.first F hFl (by omega) (by omega)) rfl (fun _ h => h) fun v G hv => ?_
    subst hv
    simp -implicitDefEqProofs only [push_cast, ↓reduceIte, Nat.reduceEqDiff, Nat.reduceAdd, Nat.reduceMul, Nat.reduceSub, Nat.reduceLeDiff, Nat.reduceLT, reduceCtorEq, mk_tx, tx_append, tx_size]
    refine ⟨by rw [mxl]; omega, hY _ _ _ (.string (tx [])) _ ⟨[], _, rfl, rfl, by simp; omega⟩ (by simp -implicitDefEqProofs only [push_cast, ↓reduceIte, Nat.reduceEqDiff, Nat.reduceAdd, Nat.reduceMul, Nat.reduceSub, Nat.reduceLeDiff, Nat.reduceLT, reduceCtorEq]) hFo ?_⟩
    simp -implicitDefEqProofs only [push_cast, ↓reduceIte, Nat.reduceEqDiff, Nat.reduceAdd, Nat.reduceMul, Nat.reduceSub, Nat.reduceLeDiff, Nat.reduceLT, reduceCtorEq, stepT_tx]
    exact key2 _ (by simp [accT, lineTs, liveT])
  intro s hs
  subst hs
  refine hK2 _ ?_
  clear hK2
  refine SC.cond ?_
  simp -implicitDefEqProofs only [push_cast, ↓reduceIte, Nat.reduceEqDiff, Nat.reduceAdd, Nat.reduceMul, Nat.reduceSub, Nat.reduceLeDiff, Nat.reduceLT, reduceCtorEq]
  refine SC.skip ?_
  simp -implicitDefEqProofs only [push_cast, ↓reduceIte, Nat.reduceEqDiff, Nat.reduceAdd, Nat.reduceMul, Nat.reduceSub, Nat.reduceLeDiff, Nat.reduceLT, reduceCtorEq]
  refine hK1 _ ?_
  clear hK1
  refine SC.seqN [0, 1] [.l 34, .l 35, .l 49, .b b, .l 900] fun K3 hK3 => ?_
  refine SC.seqN [0, 1, 16, 17, 18] [.l 34, .l 35, .l 49, .b b, .l 900] fun K4 hK4 => SC.region ?_
  simp -implicitDefEqProofs only [push_cast, ↓reduceIte, Nat.reduceEqDiff, Nat.reduceAdd, Nat.reduceMul, Nat.reduceSub, Nat.reduceLeDiff, Nat.reduceLT, reduceCtorEq]
  refine loadF_one (a := some ⟨bp, 0, none⟩) (.slice a p.l.length c) hFb2 rfl ?_
  simp -implicitDefEqProofs only [push_cast, ↓reduceIte, Nat.reduceEqDiff, Nat.reduceAdd, Nat.reduceMul, Nat.reduceSub, Nat.reduceLeDiff, Nat.reduceLT, reduceCtorEq]
  refine hK4 _ ?_
  clear hK4
  refine SC.block ?_
  refine SC.loop (fun i : Nat => ⟨[(0, .v (.func (.yield l) #[] #[])), (1, .v (.pointer (some ⟨bp, 0, none⟩))), (16, .v (.slice a p.l.length c)), (17, .v (.int .i64 p.l.length)), (18, .v (.int .i64 i))], [(.b b, .box [.v (.string (tx (accT ((lineTs p).take (i + 1)))))] 9)], F⟩) (fun i => i ≤ p.l.length) (fun i => p.l.length - i) 0 (Le.refl _) (Nat.zero_le _) fun i hi => ?_
  refine SC.seqN [0, 1, 16, 17, 18, 19] [.l 34, .l 35, .l 49, .b b, .l 900] fun K5 hK5 => SC.region ?_
  simp -implicitDefEqProofs only [push_cast, ↓reduceIte, Nat.reduceEqDiff, Nat.reduceAdd, Nat.reduceMul, Nat.reduceSub, Nat.reduceLeDiff, Nat.reduceLT, reduceCtorEq]
  refine hK5 _ ?_
  clear hK5
  refine SC.seqN [0, 1, 16, 17, 18] [.l 34, .l 35, .l 49, .b b, .l 900] fun K6 hK6 => ?_
  refine SC.cond ?_
  simp -implicitDefEqProofs only [push_cast, ↓reduceIte, Nat.reduceEqDiff, Nat.reduceAdd, Nat.reduceMul, Nat.reduceSub, Nat.reduceLeDiff, Nat.reduceLT, reduceCtorEq]
  refine ⟨fun h2 => ?_, fun h2 => ?_⟩
  · skip
    have hil : i < p.l.length := by omega
    obtain ⟨sg, hsg⟩ : ∃ sg, sg = p.l[i] := ⟨_, rfl⟩
    have hg : p.l[i]? = some sg := by rw [hsg]; exact List.getElem?_eq_getElem hil
    have hmem : sg ∈ p.l := by rw [hsg]; exact List.getElem_mem hil
    have hsb := hvs _ hmem
    have hbo : ∀ j, j < 16 → 0 ≤ sg.body j ∧ sg.body j ≤ 255 := hb _ hmem
    refine SC.skip ?_
    simp -implicitDefEqProofs only [push_cast, ↓reduceIte, Nat.reduceEqDiff, Nat.reduceAdd, Nat.reduceMul, Nat.reduceSub, Nat.reduceLeDiff, Nat.reduceLT, reduceCtorEq]
    refine hK6 _ ?_
    clear hK6
    refine SC.seqN [0, 1, 16, 17, 18] [.l 34, .l 35, .l 49, .b b, .l 900] fun K7 hK7 => ?_
    refine SC.block ?_
    refine SC.seqN [0, 1, 4, 16, 17, 18] [.l 4, .l 34, .l 35, .l 49, .b b, .l 900] fun K8 hK8 => SC.region ?_
    simp -implicitDefEqProofs only [push_cast, ↓reduceIte, Nat.reduceEqDiff, Nat.reduceAdd, Nat.reduceMul, Nat.reduceSub, Nat.reduceLeDiff, Nat.reduceLT, reduceCtorEq]
    refine ⟨by omega, rowF_some hFr (segsC_ne (by omega)), loadSeg i hFr hg rfl rfl ?_⟩
    simp -implicitDefEqProofs only [push_cast, ↓reduceIte, Nat.reduceEqDiff, Nat.reduceAdd, Nat.reduceMul, Nat.reduceSub, Nat.reduceLeDiff, Nat.reduceLT, reduceCtorEq, segV, segC]
    refine hK8 _ ?_
    clear hK8
    refine SC.seqN [0, 1, 4, 5, 16, 17, 18] [.l 4, .l 34, .l 35, .l 49, .b b, .l 900] fun K9 hK9 => SC.region ?_
    simp -implicitDefEqProofs only [push_cast, ↓reduceIte, Nat.reduceEqDiff, Nat.reduceAdd, Nat.reduceMul, Nat.reduceSub, Nat.reduceLeDiff, Nat.reduceLT, reduceCtorEq]
    refine hK9 _ ?_
    clear hK9
    refine SC.seqN [0, 1, 4, 5, 16, 17, 18] [.l 4, .l 34, .l 35, .l 49, .b b, .l 900] fun K10 hK10 => ?_
    refine SC.adT (i := 5) (q := 900) (et := 5) (sz := 1) rfl (by simp -implicitDefEqProofs only [push_cast, ↓reduceIte, Nat.reduceEqDiff, Nat.reduceAdd, Nat.reduceMul, Nat.reduceSub, Nat.reduceLeDiff, Nat.reduceLT, reduceCtorEq]) (by simp -implicitDefEqProofs only [push_cast, ↓reduceIte, Nat.reduceEqDiff, Nat.reduceAdd, Nat.reduceMul, Nat.reduceSub, Nat.reduceLeDiff, Nat.reduceLT, reduceCtorEq]) ?_
    simp -implicitDefEqProofs only [push_cast, ↓reduceIte, Nat.reduceEqDiff, Nat.reduceAdd, Nat.reduceMul, Nat.reduceSub, Nat.reduceLeDiff, Nat.reduceLT, reduceCtorEq]
    refine SC.seqN [0, 1, 4, 5, 16, 17, 18, 23, 24] [.l 4, .l 34, .l 35, .l 49, .b b, .l 900] fun K11 hK11 => SC.region ?_
    simp -implicitDefEqProofs only [push_cast, ↓reduceIte, Nat.reduceEqDiff, Nat.reduceAdd, Nat.reduceMul, Nat.reduceSub, Nat.reduceLeDiff, Nat.reduceLT, reduceCtorEq]
    refine hK11 _ ?_
    clear hK11
    refine SC.block ?_
    refine SC.loop (fun j : Nat => ⟨[(0, .v (.func (.yield l) #[] #[])), (1, .v (.pointer (some ⟨bp, 0, none⟩))), (4, .own (.l 4) 0), (5, .row (.l 900)), (16, .v (.slice a p.l.length c)), (17, .v (.int .i64 p.l.length)), (18, .v (.int .i64 i)), (23, .v (.agg (dgs sg.body).toArray)), (24, .v (.int .i64 j))], [(.l 4, .box [.v (.int .i64 sg.num), .v (.int .i64 sg.beg), .v (.int .i64 sg.len), .v (.int .u8 (sg.body 0)), .v (.int .u8 (sg.body 1)), .v (.int .u8 (sg.body 2)), .v (.int .u8 (sg.body 3)), .v (.int .u8 (sg.body 4)), .v (.int .u8 (sg.body 5)), .v (.int .u8 (sg.body 6)), .v (.int .u8 (sg.body 7)), .v (.int .u8 (sg.body 8)), .v (.int .u8 (sg.body 9)), .v (.int .u8 (sg.body 10)), .v (.int .u8 (sg.body 11)), .v (.int .u8 (sg.body 12)), .v (.int .u8 (sg.body 13)), .v (.int .u8 (sg.body 14)), .v (.int .u8 (sg.body 15)), .v (.int .i64 sg.size)] 40), (.b b, .box [.v (.string (tx (accT ((lineTs p).take (i + 1)))))] 9), (.l 900, .row 5 1 (2 * j) (u8v (hexL sg.body j)))], F⟩) (fun j => j ≤ 16) (fun j => 16 - j) 0 (Le.refl _) (Nat.zero_le _) fun j hj => ?_
    refine SC.seqN [0, 1, 4, 5, 16, 17, 18, 23, 24, 25] [.l 4, .l 34, .l 35, .l 49, .b b, .l 900] fun K12 hK12 => SC.region ?_
    simp -implicitDefEqProofs only [push_cast, ↓reduceIte, Nat.reduceEqDiff, Nat.reduceAdd, Nat.reduceMul, Nat.reduceSub, Nat.reduceLeDiff, Nat.reduceLT, reduceCtorEq]
    refine hK12 _ ?_
    clear hK12
    refine SC.seqN [0, 1, 4, 5, 16, 17, 18, 23, 24] [.l 4, .l 34, .l 35, .l 49, .b b, .l 900] fun K13 hK13 => ?_
    refine SC.cond ?_
    simp -implicitDefEqProofs only [push_cast, ↓reduceIte, Nat.reduceEqDiff, Nat.reduceAdd, Nat.reduceMul, Nat.reduceSub, Nat.reduceLeDiff, Nat.reduceLT, reduceCtorEq]
    refine ⟨fun h3 => ?_, fun h3 => ?_⟩
    · skip
      have hj2 : j < 16 := by omega
      have e9 : ((j : Int).toNat * 1) = j := by omega
      have hfj := hbo j hj2
      refine SC.skip ?_
      simp -implicitDefEqProofs only [push_cast, ↓reduceIte, Nat.reduceEqDiff, Nat.reduceAdd, Nat.reduceMul, Nat.reduceSub, Nat.reduceLeDiff, Nat.reduceLT, reduceCtorEq]
      refine hK13 _ ?_
      clear hK13
      refine SC.seqN [0, 1, 4, 5, 16, 17, 18, 23, 24] [.l 4, .l 34, .l 35, .l 49, .b b, .l 900] fun K14 hK14 => ?_
      refine SC.block ?_
      refine SC.seqN [0, 1, 4, 5, 7, 16, 17, 18, 23, 24] [.l 4, .l 34, .l 35, .l 49, .b b, .l 900] fun K15 hK15 => SC.region ?_
      simp -implicitDefEqProofs only [push_cast, ↓reduceIte, Nat.reduceEqDiff, Nat.reduceAdd, Nat.reduceMul, Nat.reduceSub, Nat.reduceLeDiff, Nat.reduceLT, reduceCtorEq]
      refine ⟨by omega, ?_⟩
      rw [e9, idx_dgs _ hj2]
      simp -implicitDefEqProofs only [push_cast, ↓reduceIte, Nat.reduceEqDiff, Nat.reduceAdd, Nat.reduceMul, Nat.reduceSub, Nat.reduceLeDiff, Nat.reduceLT, reduceCtorEq]
      refine hK15 _ ?_
      clear hK15
      refine SC.drawnP (.take 0 (.take 1 (.take 2 (.take 3 (.take 4 (.take 5 (.take 6 (.fork 7 (.fork 8 (.take 9 (.done)) (.stop)) (.stop))))))))) (by kernel_rfl) (by kernel_rfl) (fun _ _ h => h) ?_
      simp -implicitDefEqProofs only [push_cast, ↓reduceIte, Nat.reduceEqDiff, Nat.reduceAdd, Nat.reduceMul, Nat.reduceSub, Nat.reduceLeDiff, Nat.reduceLT, reduceCtorEq]
      simp only [shr4 hfj.1 hfj.2, and15 hfj.1 hfj.2, dgts_at (show 0 ≤ sg.body j / 16 by omega) (by omega), dgts_at (show 0 ≤ sg.body j % 16 by omega) (by omega)]
      have hsz : (⟨#[48, 49, 50, 51, 52, 53, 54, 55, 56, 57, 97, 98, 99, 100, 101, 102]⟩ : ByteArray).size = 16 := rfl
      simp only [hsz]
      suffices hk : K14 ⟨[(0, .v (.func (.yield l) #[] #[])), (1, .v (.pointer (some ⟨bp, 0, none⟩))), (4, .own (.l 4) 0), (5, .row (.l 35)), (16, .v (.slice a p.l.length c)), (17, .v (.int .i64 p.l.length)), (18, .v (.int .i64 i)), (23, .v (.agg (dgs sg.body).toArray)), (24, .v (.int .i64 j))], [(.l 4, .box [.v (.int .i64 sg.num), .v (.int .i64 sg.beg), .v (.int .i64 sg.len), .v (.int .u8 (sg.body 0)), .v (.int .u8 (sg.body 1)), .v (.int .u8 (sg.body 2)), .v (.int .u8 (sg.body 3)), .v (.int .u8 (sg.body 4)), .v (.int .u8 (sg.body 5)), .v (.int .u8 (sg.body 6)), .v (.int .u8 (sg.body 7)), .v (.int .u8 (sg.body 8)), .v (.int .u8 (sg.body 9)), .v (.int .u8 (sg.body 10)), .v (.int .u8 (sg.body 11)), .v (.int .u8 (sg.body 12)), .v (.int .u8 (sg.body 13)), .v (.int .u8 (sg.body 14)), .v (.int .u8 (sg.body 15)), .v (.int .i64 sg.size)] 40), (.l 34, .row 5 1 2 [.int .u8 (hexd (sg.body j / 16)).toNat, .int .u8 (hexd (sg.body j % 16)).toNat]), (.l 35, .row 5 1 (2 * j + 2) (u8v (hexL sg.body j) ++ [.int .u8 (hexd (sg.body j / 16)).toNat, .int .u8 (hexd (sg.body j % 16)).toNat])), (.b b, .box [.v (.string (tx (accT ((lineTs p).take (i + 1)))))] 9)], F⟩ by
        repeat' (first
          | exact hk
          | (with_reducible exact one2 rfl rfl)
          | (with_reducible refine And.intro (by omega) ?_)
          | (with_reducible refine And.intro ?_ ?_)
          | intro h
          | exact rfl)
        all_goals (first | omega | (rw [mxl]; omega))
      refine hK14 _ ?_
      clear hK14
      refine SC.of_le ?_ (Le.sw _ [(35, 900)])
      simp -implicitDefEqProofs only [push_cast, ↓reduceIte, Nat.reduceEqDiff, Nat.reduceAdd, Nat.reduceMul, Nat.reduceSub, Nat.reduceLeDiff, Nat.reduceLT, reduceCtorEq]
      refine SC.region ?_
      simp -implicitDefEqProofs only [push_cast, ↓reduceIte, Nat.reduceEqDiff, Nat.reduceAdd, Nat.reduceMul, Nat.reduceSub, Nat.reduceLeDiff, Nat.reduceLT, reduceCtorEq]
      refine ⟨by omega, j + 1, by omega, by omega, Le.trans (Le.norm _ [0, 1, 4, 5, 16, 17, 18, 23, 24] [.l 4, .b b, .l 900]) ?_⟩
      simp -implicitDefEqProofs only [push_cast, ↓reduceIte, Nat.reduceEqDiff, Nat.reduceAdd, Nat.reduceMul, Nat.reduceSub, Nat.reduceLeDiff, Nat.reduceLT, reduceCtorEq]
      rw [show u8v (hexL sg.body (j + 1)) = u8v (hexL sg.body j) ++ [.int .u8 (hexd (sg.body j / 16)).toNat, .int .u8 (hexd (sg.body j % 16)).toNat] by simp [u8v, hexL], show 2 * (j + 1) = 2 * j + 2 by omega]
      exact Le.refl _
    · skip
      have hj16 : j = 16 := by omega
      subst hj16
      refine SC.exit ?_
      simp -implicitDefEqProofs only [push_cast, ↓reduceIte, Nat.reduceEqDiff, Nat.reduceAdd, Nat.reduceMul, Nat.reduceSub, Nat.reduceLeDiff, Nat.reduceLT, reduceCtorEq]
      refine hK10 _ ?_
      clear hK10
      refine SC.of_le ?_ (Le.mark _)
      simp -implicitDefEqProofs only [push_cast, ↓reduceIte, Nat.reduceEqDiff, Nat.reduceAdd, Nat.reduceMul, Nat.reduceSub, Nat.reduceLeDiff, Nat.reduceLT, reduceCtorEq]
      have e1 : accT ((lineTs p).take (i + 1 + 1)) = accT ((lineTs p).take (i + 1)) ++ (Lib.join [dec sg.beg, dec sg.len, dec sg.size, hexT sg.body] [32] ++ [10]) := by
        have h1 : (lineTs p)[i + 1]? = some (segT sg) := by
          unfold lineTs
          rw [List.getElem?_cons_succ, List.getElem?_append_left (by simpa using hil), List.getElem?_map, hg]
          rfl
        rw [List.take_add_one (i := i + 1), h1]
        simp [accT, segT, Lib.join]
      have hx1 := dec_len (n := sg.beg) (by omega)
      have hx2 := dec_len (n := sg.len) (by omega)
      have hx3 := dec_len (n := sg.size) (by omega)
      have hx4 : (hexT sg.body).length = 32 := hexL_len _ 16
      have hjl : (Lib.join [dec sg.beg, dec sg.len, dec sg.size, hexT sg.body] [32]).length ≤ 92 := by simp [Lib.join]; omega
      have hal : (accT ((lineTs p).take (i + 1))).length ≤ 20000 := accT_take hv i hi
      refine SC.seqN [0, 1, 16, 17, 18, 52] [.l 34, .l 35, .l 49, .b b, .l 900] fun K16 hK16 => SC.drawnP (.take 0 (.take 1 (.take 4 (.take 7 (.take 10 (.load 2 (.load 5 (.load 8 (.forkE 3 [41, 44] (.forkE 6 [44] (.fork 9 (.fork 11 (.fork 12 (.fork 13 (.fork 14 (.take 15 (.done)) (.stop)) (.stop)) (.stop)) (.stop)) (.forkE 11 [44] (.fork 9 (.fork 12 (.fork 13 (.fork 14 (.take 15 (.done)) (.stop)) (.stop)) (.stop)) (.stop)) (.stop))) (.forkE 11 [41, 44] (.forkE 6 [44] (.fork 9 (.fork 12 (.fork 13 (.fork 14 (.take 15 (.done)) (.stop)) (.stop)) (.stop)) (.stop)) (.stop)) (.stop))) (.forkE 11 [38, 41, 44] (.forkE 3 [41, 44] (.forkE 6 [44] (.fork 9 (.fork 12 (.fork 13 (.fork 14 (.take 15 (.done)) (.stop)) (.stop)) (.stop)) (.stop)) (.stop)) (.stop)) (.stop))))))))))) (by kernel_rfl) (by kernel_rfl) (fun _ _ h => h) ?_
      simp -implicitDefEqProofs only [push_cast, ↓reduceIte, Nat.reduceEqDiff, Nat.reduceAdd, Nat.reduceMul, Nat.reduceSub, Nat.reduceLeDiff, Nat.reduceLT, reduceCtorEq, u8s_u8v, bstr_u8]
      suffices key16 : ∀ (F2 : Fact), F2.to F → K16 ⟨[(0, .v (.func (.yield l) #[] #[])), (1, .v (.pointer (some ⟨bp, 0, none⟩))), (16, .v (.slice a p.l.length c)), (17, .v (.int .i64 p.l.length)), (18, .v (.int .i64 i)), (52, .v (.bool false))], [(.b b, .box [.v (.string (tx (accT ((lineTs p).take (i + 1 + 1)))))] 9), (.l 900, .row 5 1 32 (u8v (hexL sg.body 16)))], F2⟩ by
        clear hK3 hK7 hK13 hK16
        rw [e1] at key16
        set_option maxHeartbeats 400000 in
        repeat' (first
          | (with_reducible refine And.intro ?_ ?_)
          | (with_reducible refine callL_fn0 (itoa_fn sg.beg F hFl (by omega) (by omega)) ?_ (fun _ h => h) ?_
             · rfl
             intro v G hv
             subst hv
             simp -implicitDefEqProofs only [push_cast, ↓reduceIte, Nat.reduceEqDiff, Nat.reduceAdd, Nat.reduceMul, Nat.reduceSub, Nat.reduceLeDiff, Nat.reduceLT, reduceCtorEq])
          | (with_reducible refine callL_fn0 (itoa_fn sg.len F hFl (by omega) (by omega)) ?_ (fun _ h => h) ?_
             · rfl
             intro v G hv
             subst hv
             simp -implicitDefEqProofs only [push_cast, ↓reduceIte, Nat.reduceEqDiff, Nat.reduceAdd, Nat.reduceMul, Nat.reduceSub, Nat.reduceLeDiff, Nat.reduceLT, reduceCtorEq])
          | (with_reducible refine callL_fn0 (itoa_fn sg.size F hFl (by omega) (by omega)) ?_ (fun _ h => h) ?_
             · rfl
             intro v G hv
             subst hv
             simp -implicitDefEqProofs only [push_cast, ↓reduceIte, Nat.reduceEqDiff, Nat.reduceAdd, Nat.reduceMul, Nat.reduceSub, Nat.reduceLeDiff, Nat.reduceLT, reduceCtorEq])
          | (rw [u8s_u8v]
             simp -implicitDefEqProofs only [push_cast, ↓reduceIte, Nat.reduceEqDiff, Nat.reduceAdd, Nat.reduceMul, Nat.reduceSub, Nat.reduceLeDiff, Nat.reduceLT, reduceCtorEq, bstr_u8]))
        all_goals intro bN
        all_goals refine callL_fn0 (join_fn [dec sg.beg, dec sg.len, dec sg.size, hexT sg.body] [32] ⟨bN, 0, none⟩ 4 (F.and (cellsF bN 0 (strs [dec sg.beg, dec sg.len, dec sg.size, hexT sg.body]))) (Fact.to_right (Fact.to_refl _)) rfl (by simp) (by simp) (by simp) (by omega)) rfl (fun _ h => h) fun v G hv => ?_
        all_goals subst hv
        all_goals simp -implicitDefEqProofs only [push_cast, ↓reduceIte, Nat.reduceEqDiff, Nat.reduceAdd, Nat.reduceMul, Nat.reduceSub, Nat.reduceLeDiff, Nat.reduceLT, reduceCtorEq]
        all_goals refine hY _ _ _ (.string (tx (accT ((lineTs p).take (i + 1))))) _ ⟨_, _, rfl, rfl, by omega⟩ (by simp -implicitDefEqProofs only [push_cast, ↓reduceIte, Nat.reduceEqDiff, Nat.reduceAdd, Nat.reduceMul, Nat.reduceSub, Nat.reduceLeDiff, Nat.reduceLT, reduceCtorEq]) (Fact.to_left hFo) ?_
        all_goals simp -implicitDefEqProofs only [push_cast, ↓reduceIte, Nat.reduceEqDiff, Nat.reduceAdd, Nat.reduceMul, Nat.reduceSub, Nat.reduceLeDiff, Nat.reduceLT, reduceCtorEq, stepT_tx]
        all_goals exact key16 _ (Fact.to_left (Fact.to_refl _))
      intro F2 hF2
      refine hK16 _ ?_
      clear hK16
      refine SC.cond ?_
      simp -implicitDefEqProofs only [push_cast, ↓reduceIte, Nat.reduceEqDiff, Nat.reduceAdd, Nat.reduceMul, Nat.reduceSub, Nat.reduceLeDiff, Nat.reduceLT, reduceCtorEq]
      refine SC.skip ?_
      simp -implicitDefEqProofs only [push_cast, ↓reduceIte, Nat.reduceEqDiff, Nat.reduceAdd, Nat.reduceMul, Nat.reduceSub, Nat.reduceLeDiff, Nat.reduceLT, reduceCtorEq]
      refine hK7 _ ?_
      clear hK7
      refine SC.of_le ?_ (Le.fact (G := F) hF2)
      simp -implicitDefEqProofs only [push_cast, ↓reduceIte, Nat.reduceEqDiff, Nat.reduceAdd, Nat.reduceMul, Nat.reduceSub, Nat.reduceLeDiff, Nat.reduceLT, reduceCtorEq]
      refine SC.region ?_
      simp -implicitDefEqProofs only [push_cast, ↓reduceIte, Nat.reduceEqDiff, Nat.reduceAdd, Nat.reduceMul, Nat.reduceSub, Nat.reduceLeDiff, Nat.reduceLT, reduceCtorEq]
      refine ⟨by omega, i + 1, by omega, by omega, Le.trans (Le.norm _ [0, 1, 16, 17, 18] [.b b]) ?_⟩
      simp -implicitDefEqProofs only [push_cast, ↓reduceIte, Nat.reduceEqDiff, Nat.reduceAdd, Nat.reduceMul, Nat.reduceSub, Nat.reduceLeDiff, Nat.reduceLT, reduceCtorEq]
      exact Le.refl _
  · skip
    have hin : i = p.l.length := by omega
    have hal := accT_take hv i hi
    refine SC.exit ?_
    simp -implicitDefEqProofs only [push_cast, ↓reduceIte, Nat.reduceEqDiff, Nat.reduceAdd, Nat.reduceMul, Nat.reduceSub, Nat.reduceLeDiff, Nat.reduceLT, reduceCtorEq]
    refine hK3 _ ?_
    clear hK3
    refine SC.seqN [0, 55] [.l 34, .l 35, .l 49, .b b, .l 900] fun K17 hK17 => SC.region ?_
    simp -implicitDefEqProofs only [push_cast, ↓reduceIte, Nat.reduceEqDiff, Nat.reduceAdd, Nat.reduceMul, Nat.reduceSub, Nat.reduceLeDiff, Nat.reduceLT, reduceCtorEq]
    refine loadF_one (a := some ⟨bp, 0, none⟩) (.bool p.done) hFb2 rfl ?_
    simp -implicitDefEqProofs only [push_cast, ↓reduceIte, Nat.reduceEqDiff, Nat.reduceAdd, Nat.reduceMul, Nat.reduceSub, Nat.reduceLeDiff, Nat.reduceLT, reduceCtorEq]
    refine hK17 _ ?_
    clear hK17
    refine SC.cond ?_
    simp -implicitDefEqProofs only [push_cast, ↓reduceIte, Nat.reduceEqDiff, Nat.reduceAdd, Nat.reduceMul, Nat.reduceSub, Nat.reduceLeDiff, Nat.reduceLT, reduceCtorEq]
    refine ⟨fun h5 => ?_, fun h5 => ?_⟩
    · skip
      refine SC.region ?_
      simp -implicitDefEqProofs only [push_cast, ↓reduceIte, Nat.reduceEqDiff, Nat.reduceAdd, Nat.reduceMul, Nat.reduceSub, Nat.reduceLeDiff, Nat.reduceLT, reduceCtorEq]
      refine hY _ _ _ (.string (tx (accT ((lineTs p).take (i + 1))))) _ ⟨_, doneT, rfl, rfl, by simp only [doneT, List.length_cons, List.length_nil]; omega⟩ (by simp -implicitDefEqProofs only [push_cast, ↓reduceIte, Nat.reduceEqDiff, Nat.reduceAdd, Nat.reduceMul, Nat.reduceSub, Nat.reduceLeDiff, Nat.reduceLT, reduceCtorEq]) hFo ?_
      have hst : stepT (.string (tx (accT ((lineTs p).take (i + 1))))) (.string ⟨#[100, 111, 110, 101]⟩) = .string (tx (accT (lineTs p))) := by
        rw [accT_done h5, hin]
        exact stepT_tx _ doneT
      simp -implicitDefEqProofs only [push_cast, ↓reduceIte, Nat.reduceEqDiff, Nat.reduceAdd, Nat.reduceMul, Nat.reduceSub, Nat.reduceLeDiff, Nat.reduceLT, reduceCtorEq, hst]
      -- END
    · skip
      refine SC.skip ?_
      simp -implicitDefEqProofs only [push_cast, ↓reduceIte, Nat.reduceEqDiff, Nat.reduceAdd, Nat.reduceMul, Nat.reduceSub, Nat.reduceLeDiff, Nat.reduceLT, reduceCtorEq]
      have h5' : p.done = false := by simpa using h5
      rw [accT_open h5', hin]
end Go.Proofs.YtmamodnpghlgcaaDoor
/- playlist.Text. -/

set_option linter.unusedSimpArgs false
set_option linter.unusedVariables false
set_option maxRecDepth 100000
set_option maxHeartbeats 4000000
namespace Go.Proofs.YtmamodnpghlgcaaDoor
open Go.RowKit
theorem accT_text (p : Pl) : accT (lineTs p) = textT p := by
  have h1 : accT (p.l.map segT) = rowsT p.l := by simp [accT, rowsT, List.flatMap_map]
  unfold lineTs textT headT
  rw [← List.cons_append, accT_app, show ∀ x l, accT (x :: l) = x ++ [10] ++ accT l from fun _ _ => rfl, h1]
  cases p.done <;> simp [accT]
theorem text_fn (p : Pl) (v : Value) (F : Fact) (hF : F.to libF) (hp : isPl p F v) (hl : p.l.length < 1000000) (hb : ∀ s ∈ p.l, s.BOk) : Fn Tryd.prog 14 [v] F fun v _ => v = .tuple #[.string (tx (textB p)), .int .i64 (textE p)] := by
  have hpp := hp
  obtain ⟨a, c, rfl, hc, hFr⟩ := hp
  unfold plV at hpp ⊢
  refine Fn.of_bodyRF (R0 := fun v => v = .tuple #[.string (tx (textB p)), .int .i64 (textE p)]) Tryd.func14 rfl (Nat.le_of_ble_eq_true rfl) (Nat.le_of_ble_eq_true rfl) (by kernel_rfl) (by kernel_rfl) ?_
  refine SCR.seqN [1] [.l 1] fun K1 hK1 => SC.region ?_
  simp -implicitDefEqProofs only [push_cast, ↓reduceIte, Nat.reduceEqDiff, Nat.reduceAdd, Nat.reduceMul, Nat.reduceSub, Nat.reduceLeDiff, Nat.reduceLT, reduceCtorEq]
  refine hK1 _ ?_
  refine SCR.seqN [1] [.l 1] fun K2 hK2 => ?_
  refine SC.seqN [1, 8] [.l 1] fun K3 hK3 => SC.region ?_
  simp -implicitDefEqProofs only [push_cast, ↓reduceIte, Nat.reduceEqDiff, Nat.reduceAdd, Nat.reduceMul, Nat.reduceSub, Nat.reduceLeDiff, Nat.reduceLT, reduceCtorEq]
  refine callL_fn0 (valid_fn p _ F hpp hl) rfl (fun _ h => h) fun v G hv => ?_
  subst hv
  simp -implicitDefEqProofs only [push_cast, ↓reduceIte, Nat.reduceEqDiff, Nat.reduceAdd, Nat.reduceMul, Nat.reduceSub, Nat.reduceLeDiff, Nat.reduceLT, reduceCtorEq]
  refine hK3 _ ?_
  refine SC.cond ?_
  simp -implicitDefEqProofs only [push_cast, ↓reduceIte, Nat.reduceEqDiff, Nat.reduceAdd, Nat.reduceMul, Nat.reduceSub, Nat.reduceLeDiff, Nat.reduceLT, reduceCtorEq]
  refine ⟨fun h1 => ?_, fun h1 => ?_⟩
  · have hv : validB p = false := by simpa using h1
    refine SC.seqN [2, 3] [] fun K4 hK4 => SC.region ?_
    simp -implicitDefEqProofs only [push_cast, ↓reduceIte, Nat.reduceEqDiff, Nat.reduceAdd, Nat.reduceMul, Nat.reduceSub, Nat.reduceLeDiff, Nat.reduceLT, reduceCtorEq]
    refine hK4 _ ?_
    refine SC.ret ?_
    simp -implicitDefEqProofs only [push_cast, ↓reduceIte, Nat.reduceEqDiff, Nat.reduceAdd, Nat.reduceMul, Nat.reduceSub, Nat.reduceLeDiff, Nat.reduceLT, reduceCtorEq, Tryd.f14]
    simp [textB, textE, hv]
    rfl
  · have hv : validB p = true := by simpa using h1
    refine SC.skip ?_
    simp -implicitDefEqProofs only [push_cast, ↓reduceIte, Nat.reduceEqDiff, Nat.reduceAdd, Nat.reduceMul, Nat.reduceSub, Nat.reduceLeDiff, Nat.reduceLT, reduceCtorEq]
    refine hK2 _ ?_
    refine SCR.seqN [1, 4] [.l 1, .l 4] fun K5 hK5 => SC.region ?_
    simp -implicitDefEqProofs only [push_cast, ↓reduceIte, Nat.reduceEqDiff, Nat.reduceAdd, Nat.reduceMul, Nat.reduceSub, Nat.reduceLeDiff, Nat.reduceLT, reduceCtorEq]
    refine hK5 _ ?_
    refine SCR.seq2 [4, 10] [.l 4] fun K6 hK6 => SC.region ?_
    simp -implicitDefEqProofs only [push_cast, ↓reduceIte, Nat.reduceEqDiff, Nat.reduceAdd, Nat.reduceMul, Nat.reduceSub, Nat.reduceLeDiff, Nat.reduceLT, reduceCtorEq]
    refine callL_fn (lines_fn p _ F hpp) rfl (fun _ h => h) ?_
    rintro v G ⟨bp, ap, cp, rfl, hG1, hG2⟩
    simp -implicitDefEqProofs only [push_cast, ↓reduceIte, Nat.reduceEqDiff, Nat.reduceAdd, Nat.reduceMul, Nat.reduceSub, Nat.reduceLeDiff, Nat.reduceLT, reduceCtorEq]
    refine hK6 _ ?_
    refine SCR.range (ok := okT) (step := stepT) (acc0 := .string (tx [])) (accN := .string (tx (accT (lineTs p)))) (ka := .l 4) (pa := 4) (gfn := Tryd.f49) rfl (by decide) rfl rfl (by decide) (by decide) (by decide) (by kernel_rfl) (by kernel_rfl) (by kernel_rfl) (by kernel_rfl) (by kernel_rfl) (by kernel_rfl) ?_ Tryd.func49 rfl (Nat.le_of_ble_eq_true rfl) (Nat.le_of_ble_eq_true rfl) (by kernel_rfl) rfl (by simp -implicitDefEqProofs only [push_cast, ↓reduceIte, Nat.reduceEqDiff, Nat.reduceAdd, Nat.reduceMul, Nat.reduceSub, Nat.reduceLeDiff, Nat.reduceLT, reduceCtorEq]) ?_ ?_
    · unfold RoundOK
      rintro b' acc x ⟨ta, tb, rfl, rfl, hlen⟩
      simp -implicitDefEqProofs only [push_cast, ↓reduceIte, Nat.reduceEqDiff, Nat.reduceAdd, Nat.reduceMul, Nat.reduceSub, Nat.reduceLeDiff, Nat.reduceLT, reduceCtorEq, mk_tx, tx_append, tx_size, stepT_tx]
      rw [mxl, List.length_append]
      simp only [List.length_singleton]
      omega
    · intro l b r hY
      exact lines1_walk p l b bp ap cp r _ (Fact.to_left (Fact.to_left hF)) (Fact.to_left (Fact.to_right hG1)) (Fact.to_left (Fact.to_right hG2)) (Fact.to_right (Fact.to_refl _)) hv hb hY _ rfl
    · refine SC.seqN [2, 3] [] fun K7 hK7 => SC.region ?_
      simp -implicitDefEqProofs only [push_cast, ↓reduceIte, Nat.reduceEqDiff, Nat.reduceAdd, Nat.reduceMul, Nat.reduceSub, Nat.reduceLeDiff, Nat.reduceLT, reduceCtorEq]
      refine hK7 _ ?_
      refine SC.ret ?_
      simp -implicitDefEqProofs only [push_cast, ↓reduceIte, Nat.reduceEqDiff, Nat.reduceAdd, Nat.reduceMul, Nat.reduceSub, Nat.reduceLeDiff, Nat.reduceLT, reduceCtorEq, Tryd.f14]
      simp only [textB, textE, hv, if_true, accT_text]
end Go.Proofs.YtmamodnpghlgcaaDoor
/- Lag, Gap, must. -/

set_option linter.unusedSimpArgs false
set_option linter.unusedVariables false
set_option maxRecDepth 100000
set_option maxHeartbeats 4000000
namespace Go.Proofs.YtmamodnpghlgcaaDoor
open Go.RowKit
theorem lag_fn (x y z : Int) (F : Fact) (hx : 0 ≤ x ∧ x ≤ 1000) (hy : 0 ≤ y ∧ y ≤ 1152921504606846) (hz : 0 ≤ z ∧ z ≤ 1152921504606846976) : Fn Tryd.prog 21 [.int .i64 x, .int .i64 y, .int .i64 z] F fun v _ => v = .int .i64 (z + x * y) := by
  have h1 : 0 ≤ x * y := Int.mul_nonneg hx.1 hy.1
  have h2 : x * y ≤ 1000 * 1152921504606846 := Int.mul_le_mul hx.2 hy.2 hy.1 (by decide)
  refine Fn.of_body Tryd.func21 rfl (Nat.le_of_ble_eq_true rfl) (Nat.le_of_ble_eq_true rfl) (by kernel_rfl) ?_
  refine SC.seqN [0, 1, 2] [] fun K1 hK1 => SC.region ?_
  simp -implicitDefEqProofs only [push_cast, ↓reduceIte, Nat.reduceEqDiff, Nat.reduceAdd, Nat.reduceMul, Nat.reduceSub, Nat.reduceLeDiff, Nat.reduceLT, reduceCtorEq]
  refine hK1 _ ?_
  clear hK1
  refine SC.seqN [6] [] fun K2 hK2 => SC.region ?_
  simp -implicitDefEqProofs only [push_cast, ↓reduceIte, Nat.reduceEqDiff, Nat.reduceAdd, Nat.reduceMul, Nat.reduceSub, Nat.reduceLeDiff, Nat.reduceLT, reduceCtorEq]
  refine ⟨by omega, by omega, ?_⟩
  refine hK2 _ ?_
  clear hK2
  refine SC.ret ?_
  simp -implicitDefEqProofs only [push_cast, ↓reduceIte, Nat.reduceEqDiff, Nat.reduceAdd, Nat.reduceMul, Nat.reduceSub, Nat.reduceLeDiff, Nat.reduceLT, reduceCtorEq, Tryd.f21]
theorem gap_fn (x y z : Int) (F : Fact) (hx : 0 ≤ x ∧ x ≤ 1000) (hy : 0 ≤ y ∧ y ≤ 1152921504606846) (hz : 0 < z ∧ z ≤ 1152921504606846976) : Fn Tryd.prog 22 [.int .i64 x, .int .i64 y, .int .i64 z] F fun v _ => v = .int .i64 ((x * y + z - 1) / z) := by
  have h1 : 0 ≤ x * y := Int.mul_nonneg hx.1 hy.1
  have h2 : x * y ≤ 1000 * 1152921504606846 := Int.mul_le_mul hx.2 hy.2 hy.1 (by decide)
  have h3 : 0 ≤ (x * y + z - 1) / z := Int.ediv_nonneg (by omega) (by omega)
  have h4 : (x * y + z - 1) / z ≤ x * y + z - 1 := Int.ediv_le_self _ (by omega)
  refine Fn.of_body Tryd.func22 rfl (Nat.le_of_ble_eq_true rfl) (Nat.le_of_ble_eq_true rfl) (by kernel_rfl) ?_
  refine SC.seqN [0, 1, 2] [] fun K1 hK1 => SC.region ?_
  simp -implicitDefEqProofs only [push_cast, ↓reduceIte, Nat.reduceEqDiff, Nat.reduceAdd, Nat.reduceMul, Nat.reduceSub, Nat.reduceLeDiff, Nat.reduceLT, reduceCtorEq]
  refine hK1 _ ?_
  clear hK1
  refine SC.seqN [6] [] fun K2 hK2 => SC.region ?_
  simp -implicitDefEqProofs only [push_cast, ↓reduceIte, Nat.reduceEqDiff, Nat.reduceAdd, Nat.reduceMul, Nat.reduceSub, Nat.reduceLeDiff, Nat.reduceLT, reduceCtorEq]
  refine ⟨by omega, by omega, by omega, by omega, by omega, ?_⟩
  refine hK2 _ ?_
  clear hK2
  refine SC.ret ?_
  simp -implicitDefEqProofs only [push_cast, ↓reduceIte, Nat.reduceEqDiff, Nat.reduceAdd, Nat.reduceMul, Nat.reduceSub, Nat.reduceLeDiff, Nat.reduceLT, reduceCtorEq, Tryd.f22]
end Go.Proofs.YtmamodnpghlgcaaDoor
/- must: the panic of the reader. -/

set_option linter.unusedSimpArgs false
set_option linter.unusedVariables false
set_option maxRecDepth 100000
set_option maxHeartbeats 4000000
namespace Go.Proofs.YtmamodnpghlgcaaDoor
open Go.RowKit
/-- The value of the reader's panic. -/
def errV : Value := .iface 31 (.int .i64 3)
theorem must_fn (q : Bool) (F : Fact) : FnE Tryd.prog 34 [.bool q] F (fun v _ => q = true ∧ v = .tuple #[]) (fun v => q = false ∧ v = errV) := by
  refine FnE.of_body Tryd.func34 rfl (Nat.le_of_ble_eq_true rfl) (Nat.le_of_ble_eq_true rfl) (by kernel_rfl) ?_
  refine SC.seqN [3] [] fun K1 hK1 => SC.region ?_
  simp -implicitDefEqProofs only [push_cast, ↓reduceIte, Nat.reduceEqDiff, Nat.reduceAdd, Nat.reduceMul, Nat.reduceSub, Nat.reduceLeDiff, Nat.reduceLT, reduceCtorEq]
  refine hK1 _ ?_
  clear hK1
  refine SC.cond ?_
  simp -implicitDefEqProofs only [push_cast, ↓reduceIte, Nat.reduceEqDiff, Nat.reduceAdd, Nat.reduceMul, Nat.reduceSub, Nat.reduceLeDiff, Nat.reduceLT, reduceCtorEq]
  refine ⟨fun h1 => ?_, fun h1 => ?_⟩
  · skip
    refine SC.region ?_
    simp -implicitDefEqProofs only [push_cast, ↓reduceIte, Nat.reduceEqDiff, Nat.reduceAdd, Nat.reduceMul, Nat.reduceSub, Nat.reduceLeDiff, Nat.reduceLT, reduceCtorEq]
    exact ⟨by simpa using h1, rfl⟩
    -- END
  · skip
    refine SC.skip ?_
    simp -implicitDefEqProofs only [push_cast, ↓reduceIte, Nat.reduceEqDiff, Nat.reduceAdd, Nat.reduceMul, Nat.reduceSub, Nat.reduceLeDiff, Nat.reduceLT, reduceCtorEq]
    simp -implicitDefEqProofs only [push_cast, ↓reduceIte, Nat.reduceEqDiff, Nat.reduceAdd, Nat.reduceMul, Nat.reduceSub, Nat.reduceLeDiff, Nat.reduceLT, reduceCtorEq, Tryd.f34]
    simpa using h1
end Go.Proofs.YtmamodnpghlgcaaDoor
/- strings.Split at one byte is the specification's split. -/

set_option linter.unusedSimpArgs false
set_option linter.unusedVariables false
set_option maxRecDepth 100000
set_option maxHeartbeats 4000000
namespace Go.Proofs.YtmamodnpghlgcaaDoor
open Go.RowKit
theorem spl_miss {b : UInt8} {l : List UInt8} (h : b ∉ l) : spl b l = [l] := by
  induction l with
  | nil => rfl
  | cons x l ih =>
    simp only [List.mem_cons, not_or] at h
    simp only [spl]
    rw [if_neg (Ne.symm h.1), ih h.2]
    rfl
theorem spl_hit {b : UInt8} {pre post : List UInt8} (h : b ∉ pre) : spl b (pre ++ b :: post) = pre :: spl b post := by
  induction pre with
  | nil => simp [spl]
  | cons x l ih =>
    simp only [List.mem_cons, not_or] at h
    simp only [List.cons_append, spl]
    rw [if_neg (Ne.symm h.1), ih h.2]
    rfl
theorem index_one {b : UInt8} : ∀ (l : List UInt8), (Lib.index l [b] = -1 ∧ b ∉ l) ∨ ∃ pre post, l = pre ++ b :: post ∧ b ∉ pre ∧ Lib.index l [b] = pre.length
  | [] => .inl ⟨rfl, by simp⟩
  | x :: l => by
    by_cases hx : b = x
    · refine .inr ⟨[], l, by simp [hx], by simp, ?_⟩
      simp [Lib.index, hx]
    · have hp : ([b].isPrefixOf (x :: l)) = false := by simp [List.isPrefixOf, hx]
      rcases index_one (b := b) l with ⟨h1, h2⟩ | ⟨pre, post, h1, h2, h3⟩
      · refine .inl ⟨?_, by simp [hx, h2]⟩
        simp [Lib.index, hx, h1]
      · refine .inr ⟨x :: pre, post, by simp [h1], by simp [hx, h2], ?_⟩
        have : ¬ (pre.length : Int) = -1 := by omega
        simp [Lib.index, hx, h3, this]
theorem splitK_spl (b : UInt8) : ∀ (k : Nat) (l : List UInt8), l.length ≤ k → Lib.splitK [b] 0 (Lib.count l [b]) l = spl b l ∧ Lib.count l [b] + 1 = (spl b l).length := by
  intro k
  induction k with
  | zero =>
    intro l hl
    have : l = [] := List.length_eq_zero_iff.1 (by omega)
    subst this
    exact ⟨rfl, rfl⟩
  | succ k ih =>
    intro l hl
    rcases index_one (b := b) l with ⟨h1, h2⟩ | ⟨pre, post, rfl, h2, h3⟩
    · rw [Lib.count_miss h1, spl_miss h2]
      exact ⟨rfl, rfl⟩
    · have hd : (pre ++ b :: post).drop (pre.length + 1) = post := by simp [List.drop_append]
      have hc := Lib.count_hit (s := pre ++ b :: post) (sub := [b]) (i := pre.length) (by simp) h3
      simp only [List.length_singleton, hd] at hc
      obtain ⟨i1, i2⟩ := ih post (by simp at hl; omega)
      rw [hc, spl_hit h2, Nat.add_comm 1]
      unfold Lib.splitK
      have hne : ¬ (Lib.index (pre ++ b :: post) [b] == -1) = true := fun e => by have := beq_iff_eq.1 e; omega
      rw [if_neg hne, h3]
      simp only [Int.toNat_natCast, Nat.add_zero, List.length_cons, List.length_nil, Nat.zero_add, hd]
      exact ⟨by rw [i1]; simp, by rw [i2]⟩
theorem Grew.plus {s : Hp} {w : World} (hin : s.inw w) (cs : Array Value) (et : TypeId) : Grew s w (cellsF w.heap.size 0 cs.toList) (s.plus w.heap.size cs.toList) (w.alloc (.cells cs et)) := by
  have hold : ∀ g, g < w.heap.size → (w.alloc (.cells cs et)).heap[g]? = w.heap[g]? := fun g hg => Below.heap_alloc w _ g hg
  refine ⟨⟨fun g o v hv => ?_, fun _ _ hm => hm, fun _ _ hm => hm⟩, ⟨fun g o v hv => ?_, fun g m hm => ?_, fun g o ho => ?_⟩, fun j v hv => ?_, fun g hg => ?_, ⟨rfl, rfl, rfl, by simp, fun g hg => hold g hg⟩⟩
  · have hlt := Hp.has_lt hin (.inl ⟨o, v, hv⟩)
    simp only [Hp.plus]
    rw [if_neg (by omega)]
    exact hv
  · simp only [Hp.plus] at hv
    split at hv
    · rename_i hg
      subst hg
      rw [World.cell?_alloc_new, ← Array.getElem?_toList]
      exact hv
    · rw [World.cell?_of_block (hold g (Hp.has_lt hin (.inl ⟨o, v, hv⟩)))]
      exact hin.cell g o v hv
  · rw [hold g (Hp.has_lt hin (.inr (.inl ⟨m, hm⟩)))]; exact hin.mp g m hm
  · rw [hold g (Hp.has_lt hin (.inr (.inr ⟨o, ho⟩)))]; exact hin.ob g o ho
  · rw [Nat.zero_add]
    simp only [Hp.plus, if_true]
    exact hv
  · rcases hg with ⟨o, v, hv⟩ | hm
    · simp only [Hp.plus] at hv
      split at hv
      · rename_i h; exact .inr (by omega)
      · exact .inl (.inl ⟨o, v, hv⟩)
    · exact .inl (.inr hm)
theorem split_lib_fn (l : List UInt8) (b : UInt8) (F : Fact) (hF : F.to libF) (hl : l.length < 4294967281) : Fn Tryd.prog 33 [.string (tx l), .string (tx [b])] F fun v G => isStrs (spl b l) G v := by
  intro s w hin hs
  obtain ⟨g, cs, ty, fr, h1, h2, m, rfl⟩ := (hF s hs).2.1
  have hg : Tryd.prog.globalNamed "internal/bytealg.MaxLen" = some 0 := by kernel_rfl
  rw [hg] at h1
  obtain rfl := Option.some.inj h1
  have hm : w.cell? ⟨0, 0, none⟩ = some (.int .i64 m) := by rw [cell_box (hin.ob _ _ h2)]; rfl
  obtain ⟨k1, k2⟩ := splitK_spl b l.length l (Nat.le_refl _)
  have hd : ∀ x : List UInt8, (tx x).data.toList = x := fun x => by simp [tx]
  have hc : Lib.countB (tx l) (tx [b]) = Lib.count l [b] := by
    unfold Lib.countB
    rw [hd, hd]
  have hsp : Lib.splitB (tx [b]) 0 (Lib.countB (tx l) (tx [b])) (tx l) = (spl b l).map tx := by
    have h5 := Lib.splitB_data (tx [b]) 0 (Lib.countB (tx l) (tx [b])) (tx l)
    rw [hd, hd, hc, k1] at h5
    rw [hc, ← h5, List.map_map]
    have : (tx ∘ fun x : ByteArray => x.data.toList) = id := by funext x; simp [tx_of]
    rw [this, List.map_id]
  refine (Tryd.strings_Split (tx l) (tx [b]) m w (by rw [tx_size]; exact hl) hm (by rw [tx_size]; simp)).mono ?_
  rintro e w' ⟨rfl, rfl⟩
  rw [hsp, hc, k2, List.map_map]
  refine ⟨cellsF w.heap.size 0 (strs (spl b l)), _, ⟨some ⟨w.heap.size, 0, none⟩, _, rfl, Nat.le_refl _, fun s hs => .inr ⟨_, rfl, rfl, fun j v hv => hs j v hv⟩⟩, Grew.plus hin (((spl b l).map (Value.string ∘ tx)).toArray) _⟩
end Go.Proofs.YtmamodnpghlgcaaDoor
/- strconv.Itoa at every int. -/

set_option linter.unusedSimpArgs false
set_option linter.unusedVariables false
set_option maxRecDepth 100000
set_option maxHeartbeats 4000000
namespace Go.Proofs.YtmamodnpghlgcaaDoor
open Go.RowKit
theorem itoaZ_fn (n : Int) (F : Fact) (hF : F.to libF) (h0 : -9223372036854775808 ≤ n) (h1 : n ≤ 9223372036854775807) : Fn Tryd.prog 50 [.int .i64 n] F fun v _ => v = .string (tx (Lib.itoa n)) := by
  refine Fn.of_calls fun s w hin hs => ?_
  obtain ⟨cs, h2, h3⟩ := varP_var hin (hF s hs).1
  subst h3
  refine (Tryd.strconv_Itoa n h0 h1 w h2).mono ?_
  rintro e w' ⟨rfl, k, os, rfl⟩
  exact ⟨⟨_, rfl, rfl⟩, Go.Lib.below_grow _ _ (Nat.le_refl _) k os⟩
end Go.Proofs.YtmamodnpghlgcaaDoor
/- number of the program; what it reads is what the specification reads. -/

set_option linter.unusedSimpArgs false
set_option linter.unusedVariables false
set_option maxRecDepth 100000
set_option maxHeartbeats 4000000
namespace Go.Proofs.YtmamodnpghlgcaaDoor
open Go.RowKit
def numP (l : List UInt8) : Option Int := match Lib.atoiAll l with
  | .ok v => if Lib.itoa v = l then some v else none
  | _ => none
theorem pu_snoc {c : UInt8} (h1 : 48 ≤ c.toNat) (h2 : c.toNat ≤ 57) : ∀ {l : List UInt8} {acc a : Nat}, Lib.parseUint10 acc l = .ok a → a * 10 + (c.toNat - 48) < 18446744073709551616 → Lib.parseUint10 acc (l ++ [c]) = .ok (a * 10 + (c.toNat - 48))
  | [], acc, a, h, hb => by
    simp only [Lib.parseUint10] at h
    injection h with h
    subst h
    simp only [List.nil_append, Lib.parseUint10]
    rw [if_pos ⟨h1, h2⟩, if_neg (by omega), if_neg (by omega)]
  | x :: l, acc, a, h, hb => by
    simp only [List.cons_append, Lib.parseUint10] at h ⊢
    split at h
    · rename_i hx
      rw [if_pos hx]
      split at h
      · cases h
      · rename_i hy
        rw [if_neg hy]
        split at h
        · cases h
        · rename_i hz
          rw [if_neg hz]
          exact pu_snoc h1 h2 h hb
    · cases h
theorem dgc {u : Nat} (h : u < 10) : (UInt8.ofNat (48 + u)).toNat = 48 + u := by simp; omega
theorem pu_dec (u : Nat) : u < 18446744073709551616 → Lib.parseUint10 0 (Lib.decDigits u) = .ok u := by
  induction u using Nat.strongRecOn with
  | ind u ih =>
    intro hu
    by_cases h : u < 10
    · rw [Lib.decDigits_one h]
      have hc := dgc h
      simp only [Lib.parseUint10, hc]
      rw [if_pos (by omega), if_neg (by omega), if_neg (by omega)]
      congr 1
      omega
    · rw [Lib.decDigits, dif_neg h]
      have hc := dgc (u := u % 10) (by omega)
      rw [pu_snoc (c := UInt8.ofNat (48 + u % 10)) (by omega) (by omega) (ih (u / 10) (by omega) (by omega)) (by omega)]
      congr 1
      omega
theorem numG_snoc {c : UInt8} : ∀ {l : List UInt8} {n a : Int}, numG n l = some a → badC c a = false → numG n (l ++ [c]) = some (10 * a + ((c.toNat : Int) - 48))
  | [], n, a, h, hb => by
    simp only [numG, Option.some.injEq] at h
    subst h
    simp [numG, hb]
  | x :: l, n, a, h, hb => by
    simp only [List.cons_append, numG] at h ⊢
    split at h
    · cases h
    · rename_i hx
      rw [if_neg hx]
      exact numG_snoc h hb
theorem numG_dec (u : Nat) : u < 1125899906842624 → numG 0 (Lib.decDigits u) = some (u : Int) := by
  induction u using Nat.strongRecOn with
  | ind u ih =>
    intro hu
    by_cases h : u < 10
    · rw [Lib.decDigits_one h]
      have hc := dgc h
      have hb : badC (UInt8.ofNat (48 + u)) 0 = false := by
        simp only [badC, hc, Bool.or_eq_false_iff, decide_eq_false_iff_not]
        omega
      simp only [numG, hb, hc]
      rw [if_neg (by simp)]
      congr 1
      omega
    · rw [Lib.decDigits, dif_neg h]
      have hc := dgc (u := u % 10) (by omega)
      rw [numG_snoc (ih (u / 10) (by omega) (by omega)) (by
        simp only [badC, hc, Bool.or_eq_false_iff, decide_eq_false_iff_not]
        omega), hc]
      congr 1
      omega
theorem decD_ne (u : Nat) : ∃ c r, Lib.decDigits u = c :: r ∧ 48 ≤ c.toNat ∧ c.toNat ≤ 57 := by
  induction u using Nat.strongRecOn with
  | ind u ih =>
    by_cases h : u < 10
    · rw [Lib.decDigits_one h]
      have hc := dgc h
      exact ⟨_, [], rfl, by omega, by omega⟩
    · rw [Lib.decDigits, dif_neg h]
      obtain ⟨c, r, h1, h2⟩ := ih (u / 10) (by omega)
      exact ⟨c, r ++ [_], by rw [h1]; rfl, h2⟩
theorem atoi_dec {u : Nat} (h : u < 9223372036854775808) : Lib.atoiAll (Lib.decDigits u) = .ok (u : Int) := by
  obtain ⟨c, r, h1, h2, h3⟩ := decD_ne u
  have h4 := pu_dec u (by omega)
  rw [h1] at h4 ⊢
  rw [Lib.atoiAll_plain c r (by omega) (by omega)]
  unfold Lib.parseMag
  rw [if_neg (by simp), h4]
  simp only [Lib.signless]
  rw [if_neg (by omega)]
theorem num_law (l : List UInt8) : numP l = some (numL l) ∨ (numL l = -1 ∧ ∀ v, numP l = some v → v < 0 ∨ 1125899906842624 ≤ v) := by
  have key : ∀ v, numP l = some v → 0 ≤ v → v < 1125899906842624 → numL l = v := by
    intro v hv h0 h1
    unfold numP at hv
    split at hv
    · rename_i z hz
      split at hv
      · rename_i h2
        have hzv : z = v := Option.some.inj hv
        rw [hzv] at h2
        unfold Lib.itoa at h2
        rw [if_neg (by omega)] at h2
        have h3 := numG_dec v.toNat (by omega)
        rw [h2] at h3
        unfold numL
        rw [h3]
        simp only
        have h4 : ((v.toNat : Int)) = v := by omega
        rw [h4, if_pos (show dec v = l from h2)]
      · cases hv
    · cases hv
  have hb := numL_bd l
  by_cases h : numL l = -1
  · refine .inr ⟨h, fun v hv => ?_⟩
    by_cases h0 : v < 0
    · exact .inl h0
    · refine .inr ?_
      by_cases h1 : v < 1125899906842624
      · have := key v hv (by omega) h1
        omega
      · omega
  · refine .inl ?_
    have h2 : dec (numL l) = l := by
      unfold numL at h ⊢
      cases hn : numG 0 l with
      | none => rw [hn] at h; exact absurd rfl h
      | some n =>
        rw [hn] at h
        simp only at h ⊢
        by_cases hd : dec n = l
        · rw [if_pos hd]; exact hd
        · rw [if_neg hd] at h; exact absurd rfl h
    generalize numL l = n at *
    have h3 := atoi_dec (u := n.toNat) (by omega)
    rw [show Lib.decDigits n.toNat = l from h2] at h3
    unfold numP
    rw [h3]
    simp only
    rw [if_pos]
    · congr 1
      omega
    · unfold Lib.itoa
      rw [if_neg (by omega)]
      rw [show ((n.toNat : Int)).toNat = n.toNat by omega]
      exact h2
theorem atoi_fn (l : List UInt8) (F : Fact) (hF : F.to libF) (hl : l.length ≤ 1000000) : Fn Tryd.prog 54 [.string (tx l)] F fun v _ => (∃ n, Lib.atoiAll l = .ok n ∧ v = .tuple #[.int .i64 n, .nilIface]) ∨ ((∀ n, Lib.atoiAll l ≠ .ok n) ∧ ∃ m tp p, v = .tuple #[.int .i64 m, .iface tp p]) := by
  refine Fn.of_calls fun s w hin hs => ?_
  have hd : (tx l).data.toList = l := by simp [tx]
  have hz := tx_size l
  obtain ⟨cs1, h2, tp1, p1, rfl⟩ := varP_var hin (hF s hs).2.2.1
  obtain ⟨cs2, h3, tp2, p2, rfl⟩ := varP_var hin (hF s hs).2.2.2
  cases h : Lib.atoiAll l
  · rename_i n
    refine (Tryd.strconv_Atoi_ok (tx l) (by omega) n (by rw [hd]; exact h) w).mono ?_
    rintro e w' ⟨rfl, rfl | ⟨t, rfl⟩⟩
    · exact ⟨⟨_, rfl, .inl ⟨n, rfl, rfl⟩⟩, Below.refl _ _⟩
    · exact ⟨⟨_, rfl, .inl ⟨n, rfl, rfl⟩⟩, Lib.bytesWorld_below _ _ _⟩
  · refine (Any.strconv_Atoi_syntax_var Tryd.laysC172 (tx l) (by omega) (by rw [hd]; exact h) tp1 p1 w h2).mono ?_
    rintro e w' ⟨N, rfl, _, _, hb⟩
    exact ⟨⟨_, rfl, .inr ⟨fun n hn => (by cases hn), _, _, _, rfl⟩⟩, hb⟩
  · refine (Tryd.strconv_Atoi_range_var (tx l) (by omega) (by rw [hd]; exact h) tp2 p2 w h3).mono ?_
    rintro e w' ⟨N, rfl, _, _, hb⟩
    exact ⟨⟨_, rfl, .inr ⟨fun n hn => (by cases hn), _, _, _, rfl⟩⟩, hb⟩
theorem numberP_fn (l : List UInt8) (F : Fact) (hF : F.to libF) (hl : l.length ≤ 1000000) : FnE Tryd.prog 36 [.string (tx l)] F (fun v _ => ∃ n, numP l = some n ∧ v = .int .i64 n) (fun v => numP l = none ∧ v = errV) := by
  refine FnE.of_body Tryd.func36 rfl (Nat.le_of_ble_eq_true rfl) (Nat.le_of_ble_eq_true rfl) (by kernel_rfl) ?_
  refine SC.seqN [0] [] fun K1 hK1 => SC.region ?_
  simp -implicitDefEqProofs only [push_cast, ↓reduceIte, Nat.reduceEqDiff, Nat.reduceAdd, Nat.reduceMul, Nat.reduceSub, Nat.reduceLeDiff, Nat.reduceLT, reduceCtorEq]
  refine hK1 _ ?_
  clear hK1
  refine SC.seqN [0, 3, 4] [] fun K2 hK2 => SC.region ?_
  simp -implicitDefEqProofs only [push_cast, ↓reduceIte, Nat.reduceEqDiff, Nat.reduceAdd, Nat.reduceMul, Nat.reduceSub, Nat.reduceLeDiff, Nat.reduceLT, reduceCtorEq]
  refine callL_fn0 (atoi_fn l F hF hl) rfl (fun _ h => h) fun v G hv => ?_
  rcases hv with ⟨n, hn, rfl⟩ | ⟨hn, m, tp, p, rfl⟩
  rotate_left
  · skip
    have hnn : numP l = none := by
      unfold numP
      split
      · rename_i v hv
        exact absurd hv (hn v)
      · rfl
    simp -implicitDefEqProofs only [push_cast, ↓reduceIte, Nat.reduceEqDiff, Nat.reduceAdd, Nat.reduceMul, Nat.reduceSub, Nat.reduceLeDiff, Nat.reduceLT, reduceCtorEq]
    refine hK2 _ ?_
    clear hK2
    refine SC.seqN [3] [] fun K3 hK3 => SC.region ?_
    simp -implicitDefEqProofs only [push_cast, ↓reduceIte, Nat.reduceEqDiff, Nat.reduceAdd, Nat.reduceMul, Nat.reduceSub, Nat.reduceLeDiff, Nat.reduceLT, reduceCtorEq]
    refine callL_fnE0 (must_fn false F) rfl (fun _ h => h) (fun v G hv => by cases hv.1) fun v hv => ?_
    simp -implicitDefEqProofs only [push_cast, ↓reduceIte, Nat.reduceEqDiff, Nat.reduceAdd, Nat.reduceMul, Nat.reduceSub, Nat.reduceLeDiff, Nat.reduceLT, reduceCtorEq]
    exact ⟨hnn, hv.2⟩
  have hb := Lib.atoiAll_bounds hn
  simp -implicitDefEqProofs only [push_cast, ↓reduceIte, Nat.reduceEqDiff, Nat.reduceAdd, Nat.reduceMul, Nat.reduceSub, Nat.reduceLeDiff, Nat.reduceLT, reduceCtorEq]
  refine hK2 _ ?_
  clear hK2
  refine SC.seqN [3] [] fun K3 hK3 => SC.region ?_
  simp -implicitDefEqProofs only [push_cast, ↓reduceIte, Nat.reduceEqDiff, Nat.reduceAdd, Nat.reduceMul, Nat.reduceSub, Nat.reduceLeDiff, Nat.reduceLT, reduceCtorEq]
  refine ⟨rfl, ?_⟩
  refine callL_fn0 (itoaZ_fn n F hF hb.1 hb.2) rfl (fun _ h => h) fun v G hv => ?_
  subst hv
  simp -implicitDefEqProofs only [push_cast, ↓reduceIte, Nat.reduceEqDiff, Nat.reduceAdd, Nat.reduceMul, Nat.reduceSub, Nat.reduceLeDiff, Nat.reduceLT, reduceCtorEq, tx_inj]
  refine callL_fnE0 (must_fn (decide (Lib.itoa n = l)) F) rfl (fun _ h => h) (fun v G hv => ?_) fun v hv => ?_
  rotate_left
  · skip
    simp -implicitDefEqProofs only [push_cast, ↓reduceIte, Nat.reduceEqDiff, Nat.reduceAdd, Nat.reduceMul, Nat.reduceSub, Nat.reduceLeDiff, Nat.reduceLT, reduceCtorEq]
    refine ⟨?_, hv.2⟩
    unfold numP
    rw [hn]
    simp only
    rw [if_neg (by simpa using hv.1)]
  have hnn : numP l = some n := by
    unfold numP
    rw [hn]
    simp only
    rw [if_pos (by simpa using hv.1)]
  simp -implicitDefEqProofs only [push_cast, ↓reduceIte, Nat.reduceEqDiff, Nat.reduceAdd, Nat.reduceMul, Nat.reduceSub, Nat.reduceLeDiff, Nat.reduceLT, reduceCtorEq]
  refine hK3 _ ?_
  clear hK3
  refine SC.seqN [2] [] fun K4 hK4 => SC.region ?_
  simp -implicitDefEqProofs only [push_cast, ↓reduceIte, Nat.reduceEqDiff, Nat.reduceAdd, Nat.reduceMul, Nat.reduceSub, Nat.reduceLeDiff, Nat.reduceLT, reduceCtorEq]
  refine hK4 _ ?_
  clear hK4
  refine SC.ret ?_
  simp -implicitDefEqProofs only [push_cast, ↓reduceIte, Nat.reduceEqDiff, Nat.reduceAdd, Nat.reduceMul, Nat.reduceSub, Nat.reduceLeDiff, Nat.reduceLT, reduceCtorEq, Tryd.f36]
  exact ⟨n, hnn, rfl⟩
end Go.Proofs.YtmamodnpghlgcaaDoor
