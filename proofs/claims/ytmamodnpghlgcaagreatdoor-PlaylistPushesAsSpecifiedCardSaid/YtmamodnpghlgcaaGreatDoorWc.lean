/- Own texts that this proof leans on, part 3: Lr, Ls, Lt, Lu, Lv, Lw, Lx, Ly, Lz, Ma. -/
import Derived.Test.YtmamodnpghlgcaaGreatDoorWb
import Derived.Lib.ItoaNum
/- The specification's Merge. -/

set_option linter.unusedSimpArgs false
set_option linter.unusedVariables false
set_option maxRecDepth 100000
set_option maxHeartbeats 4000000
namespace Go.Proofs.YtmamodnpghlgcaaGreatDoor
open Go.RowKit
/-- A playlist with an error. -/
def isMade (p : Pl) (e : Int) (G : Fact) (v : Value) : Prop := ∃ a c, v = .agg #[.int .i64 p.first, .slice a p.l.length c, .bool p.done, .int .i64 e] ∧ p.l.length ≤ c ∧ G.to (rowF a (segsC p.l))
theorem isMade0 (e : Int) (F : Fact) : isMade pl0 e F (.agg #[.int .i64 0, .slice none 0 0, .bool false, .int .i64 e]) := ⟨none, 0, rfl, Nat.le_refl _, rowF_nil _ _⟩
def befL (l : List Seg) (n : Int) : List Seg := l.filter fun s => decide (s.num < n)
def accL (e p : Pl) : List Seg := if mJoin e p then befL e.l p.first else []
def refOut (e p : Pl) (d : Bool) : Pl := ⟨match (accL e p ++ p.l)[0]? with | some s => s.num | none => p.first, accL e p ++ p.l, d⟩
def refMergeP (A B : Pl) (w : Int) : Pl × Int := if w < 1 ∨ 100 < w then (pl0, 1) else if forkB (mE A B) (mL A B) then (pl0, 430) else (refCut (refOut (mE A B) (mL A B) (A.done || B.done)) w, 0)
theorem befL_succ {l : List Seg} {i : Nat} (h : i < l.length) (n : Int) : befL (l.take (i + 1)) n = if l[i].num < n then befL (l.take i) n ++ [l[i]] else befL (l.take i) n := by
  unfold befL
  rw [List.take_succ_eq_append_getElem h, List.filter_append]
  by_cases hn : l[i].num < n <;> simp [hn]
theorem befL_le (l : List Seg) (n : Int) : (befL l n).length ≤ l.length := List.length_filter_le _ _
theorem refMerge_fn (A B : Pl) (va vb : Value) (w : Int) (F : Fact) (ha : isPl A F va) (hb : isPl B F vb) (hkA : A.Ok) (hkB : B.Ok) (hlA : A.l.length ≤ 1000) (hlB : B.l.length ≤ 1000) (hsA : ∀ s ∈ A.l, s.Ok) (hsB : ∀ s ∈ B.l, s.Ok) :
    Fn Tryz.prog 10 [va, vb, .int .i64 w] F fun v G => isMade (refMergeP A B w).1 (refMergeP A B w).2 G v := by
  obtain ⟨aA, cA, rfl, hcA, hFA⟩ := ha
  obtain ⟨aB, cB, rfl, hcB, hFB⟩ := hb
  refine Fn.of_body Tryz.func10 rfl (Nat.le_of_ble_eq_true rfl) (Nat.le_of_ble_eq_true rfl) (by kernel_rfl) ?_
  refine SC.seqN [2, 3, 4, 6] [.l 3, .l 4, .l 6, .l 77, .l 78, .l 84, .l 900] fun K1 hK1 => SC.region ?_
  simp -implicitDefEqProofs only [push_cast, ↓reduceIte, Nat.reduceEqDiff, Nat.reduceAdd, Nat.reduceMul, Nat.reduceSub, Nat.reduceLeDiff, Nat.reduceLT, reduceCtorEq, plV]
  refine hK1 _ ?_
  clear hK1
  refine SC.seqN [2, 3, 4, 6] [.l 3, .l 4, .l 6, .l 77, .l 78, .l 84, .l 900] fun K2 hK2 => ?_
  refine SC.seqN [2, 3, 4, 6, 13] [.l 3, .l 4, .l 6, .l 77, .l 78, .l 84, .l 900] fun K3 hK3 => SC.region ?_
  simp -implicitDefEqProofs only [push_cast, ↓reduceIte, Nat.reduceEqDiff, Nat.reduceAdd, Nat.reduceMul, Nat.reduceSub, Nat.reduceLeDiff, Nat.reduceLT, reduceCtorEq]
  refine callL_fn0 (wide_fn w F) rfl (fun _ h => h) fun v G hv => ?_
  subst hv
  simp -implicitDefEqProofs only [push_cast, ↓reduceIte, Nat.reduceEqDiff, Nat.reduceAdd, Nat.reduceMul, Nat.reduceSub, Nat.reduceLeDiff, Nat.reduceLT, reduceCtorEq]
  refine hK3 _ ?_
  clear hK3
  refine SC.cond ?_
  simp -implicitDefEqProofs only [push_cast, ↓reduceIte, Nat.reduceEqDiff, Nat.reduceAdd, Nat.reduceMul, Nat.reduceSub, Nat.reduceLeDiff, Nat.reduceLT, reduceCtorEq]
  refine ⟨fun h1 => ?_, fun h1 => ?_⟩
  · skip
    refine SC.seqN [6] [.l 6, .l 77, .l 78, .l 84, .l 900] fun K4 hK4 => SC.region ?_
    simp -implicitDefEqProofs only [push_cast, ↓reduceIte, Nat.reduceEqDiff, Nat.reduceAdd, Nat.reduceMul, Nat.reduceSub, Nat.reduceLeDiff, Nat.reduceLT, reduceCtorEq]
    refine hK4 _ ?_
    clear hK4
    refine SC.ret ?_
    simp -implicitDefEqProofs only [push_cast, ↓reduceIte, Nat.reduceEqDiff, Nat.reduceAdd, Nat.reduceMul, Nat.reduceSub, Nat.reduceLeDiff, Nat.reduceLT, reduceCtorEq, Tryz.f10]
    have hm : refMergeP A B w = (pl0, 1) := if_pos (by simp [wideB] at h1; omega)
    rw [hm]
    exact isMade0 _ _
  · skip
    have hw : ¬ (w < 1 ∨ 100 < w) := by simp [wideB] at h1; omega
    refine SC.skip ?_
    simp -implicitDefEqProofs only [push_cast, ↓reduceIte, Nat.reduceEqDiff, Nat.reduceAdd, Nat.reduceMul, Nat.reduceSub, Nat.reduceLeDiff, Nat.reduceLT, reduceCtorEq]
    refine hK2 _ ?_
    clear hK2
    refine SC.seqN [2, 3, 4, 6, 7] [.l 3, .l 4, .l 6, .l 7, .l 77, .l 78, .l 84, .l 900] fun K5 hK5 => SC.region ?_
    simp -implicitDefEqProofs only [push_cast, ↓reduceIte, Nat.reduceEqDiff, Nat.reduceAdd, Nat.reduceMul, Nat.reduceSub, Nat.reduceLeDiff, Nat.reduceLT, reduceCtorEq]
    refine hK5 _ ?_
    clear hK5
    refine SC.seqN [2, 3, 4, 6, 7, 8] [.l 3, .l 4, .l 6, .l 7, .l 8, .l 77, .l 78, .l 84, .l 900] fun K6 hK6 => SC.region ?_
    simp -implicitDefEqProofs only [push_cast, ↓reduceIte, Nat.reduceEqDiff, Nat.reduceAdd, Nat.reduceMul, Nat.reduceSub, Nat.reduceLeDiff, Nat.reduceLT, reduceCtorEq]
    refine hK6 _ ?_
    clear hK6
    refine SC.seqM [2, 3, 4, 6, 7, 8] [.l 3, .l 4, .l 6, .l 7, .l 8, .l 77, .l 78, .l 84, .l 900] fun K7 hK7 hJ7 => ?_
    have key7 : ∀ (e p : Pl) (ae ap : Option Addr) (ce cp : Nat), e = mE A B → p = mL A B → e.l.length ≤ ce → p.l.length ≤ cp → F.to (rowF ae (segsC e.l)) → F.to (rowF ap (segsC p.l)) → K7 ⟨[(2, .v (.int .i64 w)), (3, .own (.l 3) 0), (4, .own (.l 4) 0), (6, .own (.l 6) 0), (7, .own (.l 7) 0), (8, .own (.l 8) 0)], [(.l 3, .box [.v (.int .i64 A.first), .v (.slice aA A.l.length cA), .v (.bool A.done)] 24), (.l 4, .box [.v (.int .i64 B.first), .v (.slice aB B.l.length cB), .v (.bool B.done)] 24), (.l 6, .box [.v (.int .i64 0), .v (.slice none 0 0), .v (.bool false), .v (.int .i64 0)] 31), (.l 7, .box [.v (.int .i64 p.first), .v (.slice ap p.l.length cp), .v (.bool p.done)] 24), (.l 8, .box [.v (.int .i64 e.first), .v (.slice ae e.l.length ce), .v (.bool e.done)] 24)], F⟩ := by
      intro e p ae ap ce cp he hp hce hcp hFe hFp
      have hPe : isPl e F (plV e.first ae e.l.length ce e.done) := ⟨ae, ce, rfl, hce, hFe⟩
      have hPp : isPl p F (plV p.first ap p.l.length cp p.done) := ⟨ap, cp, rfl, hcp, hFp⟩
      have hke : e.Ok := by rw [he]; unfold mE; split <;> assumption
      have hkp : p.Ok := by rw [hp]; unfold mL; split <;> assumption
      have hle : e.l.length ≤ 1000 := by rw [he]; unfold mE; split <;> assumption
      have hlp : p.l.length ≤ 1000 := by rw [hp]; unfold mL; split <;> assumption
      have hse : ∀ s ∈ e.l, s.Ok := by rw [he]; unfold mE; split <;> assumption
      have hsp : ∀ s ∈ p.l, s.Ok := by rw [hp]; unfold mL; split <;> assumption
      have hF4 : forkB e p = true → refMergeP A B w = (pl0, 430) := by intro h; unfold refMergeP; rw [if_neg hw, ← he, ← hp, if_pos h]
      have hF5 : forkB e p = false → refMergeP A B w = (refCut (refOut e p (A.done || B.done)) w, 0) := by intro h; unfold refMergeP; rw [if_neg hw, ← he, ← hp, if_neg (by rw [h]; simp)]
      clear he hp
      have e0 := hke.f0
      have e1 := hke.f1
      have p0 := hkp.f0
      have p1 := hkp.f1
      refine hK7 _ ?_
      refine SC.seqN [2, 3, 4, 6, 7, 8] [.l 3, .l 4, .l 6, .l 7, .l 8, .l 77, .l 78, .l 84, .l 900] fun K8 hK8 => ?_
      refine SC.seqN [2, 3, 4, 6, 7, 8, 26] [.l 3, .l 4, .l 6, .l 7, .l 8, .l 77, .l 78, .l 84, .l 900] fun K9 hK9 => SC.region ?_
      simp -implicitDefEqProofs only [push_cast, ↓reduceIte, Nat.reduceEqDiff, Nat.reduceAdd, Nat.reduceMul, Nat.reduceSub, Nat.reduceLeDiff, Nat.reduceLT, reduceCtorEq]
      refine callL_fn0 (fork_fn e p _ _ F hPe hPp hke hkp hse) rfl (fun _ h => h) fun v G hv => ?_
      subst hv
      simp -implicitDefEqProofs only [push_cast, ↓reduceIte, Nat.reduceEqDiff, Nat.reduceAdd, Nat.reduceMul, Nat.reduceSub, Nat.reduceLeDiff, Nat.reduceLT, reduceCtorEq]
      refine hK9 _ ?_
      clear hK9
      refine SC.cond ?_
      simp -implicitDefEqProofs only [push_cast, ↓reduceIte, Nat.reduceEqDiff, Nat.reduceAdd, Nat.reduceMul, Nat.reduceSub, Nat.reduceLeDiff, Nat.reduceLT, reduceCtorEq]
      refine ⟨fun h2 => ?_, fun h2 => ?_⟩
      · skip
        refine SC.seqN [6] [.l 6, .l 77, .l 78, .l 84, .l 900] fun K10 hK10 => SC.region ?_
        simp -implicitDefEqProofs only [push_cast, ↓reduceIte, Nat.reduceEqDiff, Nat.reduceAdd, Nat.reduceMul, Nat.reduceSub, Nat.reduceLeDiff, Nat.reduceLT, reduceCtorEq]
        refine hK10 _ ?_
        clear hK10
        refine SC.ret ?_
        simp -implicitDefEqProofs only [push_cast, ↓reduceIte, Nat.reduceEqDiff, Nat.reduceAdd, Nat.reduceMul, Nat.reduceSub, Nat.reduceLeDiff, Nat.reduceLT, reduceCtorEq, Tryz.f10]
        rw [hF4 h2]
        exact isMade0 _ _
      · skip
        refine SC.skip ?_
        simp -implicitDefEqProofs only [push_cast, ↓reduceIte, Nat.reduceEqDiff, Nat.reduceAdd, Nat.reduceMul, Nat.reduceSub, Nat.reduceLeDiff, Nat.reduceLT, reduceCtorEq]
        refine hK8 _ ?_
        clear hK8
        refine SC.seqN [2, 6, 7, 8, 9] [.l 6, .l 7, .l 8, .l 9, .l 77, .l 78, .l 84, .l 900] fun K11 hK11 => SC.region ?_
        simp -implicitDefEqProofs only [push_cast, ↓reduceIte, Nat.reduceEqDiff, Nat.reduceAdd, Nat.reduceMul, Nat.reduceSub, Nat.reduceLeDiff, Nat.reduceLT, reduceCtorEq]
        have key11 : ∀ d, d = (A.done || B.done) → K11 ⟨[(2, .v (.int .i64 w)), (6, .own (.l 6) 0), (7, .own (.l 7) 0), (8, .own (.l 8) 0), (9, .own (.l 9) 0)], [(.l 6, .box [.v (.int .i64 0), .v (.slice none 0 0), .v (.bool false), .v (.int .i64 0)] 31), (.l 7, .box [.v (.int .i64 p.first), .v (.slice ap p.l.length cp), .v (.bool p.done)] 24), (.l 8, .box [.v (.int .i64 e.first), .v (.slice ae e.l.length ce), .v (.bool e.done)] 24), (.l 9, .box [.v (.int .i64 p.first), .v (.slice none 0 0), .v (.bool d)] 24)], F⟩ := by
          intro d hd
          refine hK11 _ ?_
          clear hK11
          refine SC.adB (k := .l 9) (j := 1) (q := 900) (et := 57) (sz := 20) rfl rfl (by decide) (by simp -implicitDefEqProofs only [push_cast, ↓reduceIte, Nat.reduceEqDiff, Nat.reduceAdd, Nat.reduceMul, Nat.reduceSub, Nat.reduceLeDiff, Nat.reduceLT, reduceCtorEq]) (by simp -implicitDefEqProofs only [push_cast, ↓reduceIte, Nat.reduceEqDiff, Nat.reduceAdd, Nat.reduceMul, Nat.reduceSub, Nat.reduceLeDiff, Nat.reduceLT, reduceCtorEq]) ?_
          simp -implicitDefEqProofs only [push_cast, ↓reduceIte, Nat.reduceEqDiff, Nat.reduceAdd, Nat.reduceMul, Nat.reduceSub, Nat.reduceLeDiff, Nat.reduceLT, reduceCtorEq]
          refine SC.seqM [2, 6, 7, 9] [.l 6, .l 7, .l 9, .l 77, .l 78, .l 84, .l 900] fun K12 hK12 hJ12 => ?_
          have key12 : ∀ acc : List Seg, acc = accL e p → K12 ⟨[(2, .v (.int .i64 w)), (6, .own (.l 6) 0), (7, .own (.l 7) 0), (9, .own (.l 9) 0)], [(.l 6, .box [.v (.int .i64 0), .v (.slice none 0 0), .v (.bool false), .v (.int .i64 0)] 31), (.l 7, .box [.v (.int .i64 p.first), .v (.slice ap p.l.length cp), .v (.bool p.done)] 24), (.l 9, .box [.v (.int .i64 p.first), .row (.l 900), .v (.bool d)] 24), (.l 900, .row 57 20 acc.length (segsC acc))], F⟩ := by
            intro acc hacc
            have hal : acc.length ≤ 1000 := by
              rw [hacc]; unfold accL; split
              · have := befL_le e.l p.first; omega
              · simp
            have has : ∀ s ∈ acc ++ p.l, s.Ok := by
              intro s hs
              rcases List.mem_append.1 hs with hs | hs
              · rw [hacc] at hs; unfold accL at hs; split at hs
                · exact hse s (List.mem_filter.1 hs).1
                · cases hs
              · exact hsp s hs
            refine hK12 _ ?_
            refine SC.seqN [2, 6, 9] [.l 6, .l 9, .l 77, .l 78, .l 84, .l 900] fun K13 hK13 => SC.region ?_
            simp -implicitDefEqProofs only [push_cast, ↓reduceIte, Nat.reduceEqDiff, Nat.reduceAdd, Nat.reduceMul, Nat.reduceSub, Nat.reduceLeDiff, Nat.reduceLT, reduceCtorEq]
            refine apF_segs p.l hFp rfl rfl ⟨by rw [mxl]; omega, by simp only []; omega⟩ ?_
            simp -implicitDefEqProofs only [push_cast, ↓reduceIte, Nat.reduceEqDiff, Nat.reduceAdd, Nat.reduceMul, Nat.reduceSub, Nat.reduceLeDiff, Nat.reduceLT, reduceCtorEq]
            refine hK13 _ ?_
            clear hK13
            refine SC.frzRow (k := .l 84) rfl (by rw [List.length_append, segsC_length, segsC_length]; omega) fun ao b co hco => ?_
            simp -implicitDefEqProofs only [push_cast, ↓reduceIte, Nat.reduceEqDiff, Nat.reduceAdd, Nat.reduceMul, Nat.reduceSub, Nat.reduceLeDiff, Nat.reduceLT, reduceCtorEq]
            have hrow : (F.and (rowF ao (segsC acc ++ segsC p.l))).to (rowF ao (segsC (acc ++ p.l))) := by rw [segsC_append]; exact Fact.to_right (Fact.to_refl _)
            have hlo : (acc ++ p.l).length = acc.length + p.l.length := List.length_append
            refine SC.seqM [2, 6, 9] [.l 6, .l 9, .l 77, .l 78, .l 84, .l 900] fun K14 hK14 hJ14 => ?_
            have key14 : ∀ (o : Pl), o = refOut e p d → K14 ⟨[(2, .v (.int .i64 w)), (6, .own (.l 6) 0), (9, .own (.l 9) 0)], [(.l 6, .box [.v (.int .i64 0), .v (.slice none 0 0), .v (.bool false), .v (.int .i64 0)] 31), (.l 9, .box [.v (.int .i64 o.first), .v (.slice ao (acc.length + p.l.length) co), .v (.bool d)] 24)], F.and (rowF ao (segsC acc ++ segsC p.l))⟩ := by
              intro o ho
              have hol : o.l = acc ++ p.l := by rw [ho, hacc]; rfl
              have hod : o.done = d := by rw [ho]; rfl
              have hkO : o.Ok := by
                have hf : o.first = match (acc ++ p.l)[0]? with | some s => s.num | none => p.first := by rw [ho, hacc]; rfl
                have hb : -1152921504606846976 ≤ o.first ∧ o.first ≤ 1152921504606846976 := by
                  cases hg : (acc ++ p.l)[0]? with
                  | none => rw [hg] at hf; simp only at hf; omega
                  | some s =>
                    rw [hg] at hf; simp only at hf
                    have := has s (List.mem_of_getElem? hg)
                    unfold Seg.Ok at this
                    omega
                exact ⟨by rw [hol, hlo]; omega, hb.1, hb.2⟩
              refine hK14 _ ?_
              refine SC.seqN [6] [.l 6, .l 77, .l 78, .l 84, .l 900] fun K15 hK15 => SC.region ?_
              simp -implicitDefEqProofs only [push_cast, ↓reduceIte, Nat.reduceEqDiff, Nat.reduceAdd, Nat.reduceMul, Nat.reduceSub, Nat.reduceLeDiff, Nat.reduceLT, reduceCtorEq]
              refine callL_fn (refCut_fn o (plV o.first ao o.l.length co o.done) w _ ⟨ao, co, rfl, by rw [hol, hlo]; exact hco, by rw [hol]; exact hrow⟩ hkO ⟨by omega, by omega⟩) (by rw [hol, hlo, hod]; rfl) (fun _ h => h) fun v G hv => ?_
              obtain ⟨a2, c2, rfl, hc2, hG⟩ := hv
              simp -implicitDefEqProofs only [push_cast, ↓reduceIte, Nat.reduceEqDiff, Nat.reduceAdd, Nat.reduceMul, Nat.reduceSub, Nat.reduceLeDiff, Nat.reduceLT, reduceCtorEq, plV]
              refine hK15 _ ?_
              clear hK15
              refine SC.ret ?_
              simp -implicitDefEqProofs only [push_cast, ↓reduceIte, Nat.reduceEqDiff, Nat.reduceAdd, Nat.reduceMul, Nat.reduceSub, Nat.reduceLeDiff, Nat.reduceLT, reduceCtorEq, Tryz.f10]
              rw [hF5 (by simpa using h2), ← hd, ← ho]
              exact ⟨a2, c2, rfl, hc2, Fact.to_right hG⟩
            refine SC.seqN [2, 6, 9, 89] [.l 6, .l 9, .l 77, .l 78, .l 84, .l 900] fun K16 hK16 => SC.region ?_
            simp -implicitDefEqProofs only [push_cast, ↓reduceIte, Nat.reduceEqDiff, Nat.reduceAdd, Nat.reduceMul, Nat.reduceSub, Nat.reduceLeDiff, Nat.reduceLT, reduceCtorEq]
            refine hK16 _ ?_
            clear hK16
            refine SC.cond ?_
            simp -implicitDefEqProofs only [push_cast, ↓reduceIte, Nat.reduceEqDiff, Nat.reduceAdd, Nat.reduceMul, Nat.reduceSub, Nat.reduceLeDiff, Nat.reduceLT, reduceCtorEq]
            refine ⟨fun h3 => ?_, fun h3 => ?_⟩
            · skip
              refine SC.region ?_
              simp -implicitDefEqProofs only [push_cast, ↓reduceIte, Nat.reduceEqDiff, Nat.reduceAdd, Nat.reduceMul, Nat.reduceSub, Nat.reduceLeDiff, Nat.reduceLT, reduceCtorEq]
              have h0 : 0 < (acc ++ p.l).length := by rw [hlo]; omega
              have hs0 : (acc ++ p.l)[0]? = some (acc ++ p.l)[0] := List.getElem?_eq_getElem h0
              refine ⟨by omega, rowF_some hrow (segsC_ne h0), loadSegC 0 hrow hs0 rfl (by omega) ?_⟩
              simp -implicitDefEqProofs only [push_cast, ↓reduceIte, Nat.reduceEqDiff, Nat.reduceAdd, Nat.reduceMul, Nat.reduceSub, Nat.reduceLeDiff, Nat.reduceLT, reduceCtorEq, segC]
              exact key14 ⟨(acc ++ p.l)[0].num, acc ++ p.l, d⟩ (by simp only [refOut, ← hacc, hs0])
            · skip
              refine SC.skip ?_
              simp -implicitDefEqProofs only [push_cast, ↓reduceIte, Nat.reduceEqDiff, Nat.reduceAdd, Nat.reduceMul, Nat.reduceSub, Nat.reduceLeDiff, Nat.reduceLT, reduceCtorEq]
              exact key14 ⟨p.first, acc ++ p.l, d⟩ (by
                have h0 : (acc ++ p.l)[0]? = none := List.getElem?_eq_none (by rw [hlo]; omega)
                simp only [refOut, ← hacc, h0])
          refine SC.seqN [2, 6, 7, 8, 9, 53] [.l 6, .l 7, .l 8, .l 9, .l 77, .l 78, .l 84, .l 900] fun K17 hK17 => SC.drawnP (.take 0 (.load 1 (.take 2 (.take 3 (.take 4 (.take 5 (.load 6 (.take 7 (.take 8 (.take 9 (.take 10 (.take 13 (.load 11 (.load 14 (.forkE 12 [37, 42, 50] (.take 15 (.take 16 (.done))) (.stop)))))))))))))))) (by kernel_rfl) (by kernel_rfl) (fun _ _ h => h) ?_
          simp -implicitDefEqProofs only [push_cast, ↓reduceIte, Nat.reduceEqDiff, Nat.reduceAdd, Nat.reduceMul, Nat.reduceSub, Nat.reduceLeDiff, Nat.reduceLT, reduceCtorEq]
          have key17 : ∀ b, b = mJoin e p → K17 ⟨[(2, .v (.int .i64 w)), (6, .own (.l 6) 0), (7, .own (.l 7) 0), (8, .own (.l 8) 0), (9, .own (.l 9) 0), (53, .v (.bool b))], [(.l 6, .box [.v (.int .i64 0), .v (.slice none 0 0), .v (.bool false), .v (.int .i64 0)] 31), (.l 7, .box [.v (.int .i64 p.first), .v (.slice ap p.l.length cp), .v (.bool p.done)] 24), (.l 8, .box [.v (.int .i64 e.first), .v (.slice ae e.l.length ce), .v (.bool e.done)] 24), (.l 9, .box [.v (.int .i64 p.first), .row (.l 900), .v (.bool d)] 24), (.l 900, .row 57 20 0 [])], F⟩ := by
            intro b hb
            subst hb
            refine hK17 _ ?_
            clear hK17
            refine SC.cond ?_
            simp -implicitDefEqProofs only [push_cast, ↓reduceIte, Nat.reduceEqDiff, Nat.reduceAdd, Nat.reduceMul, Nat.reduceSub, Nat.reduceLeDiff, Nat.reduceLT, reduceCtorEq]
            refine ⟨fun h4 => ?_, fun h4 => ?_⟩
            · skip
              refine SC.seqN [2, 6, 7, 8, 9, 10] [.l 6, .l 7, .l 8, .l 9, .l 77, .l 78, .l 84, .l 900] fun K18 hK18 => SC.region ?_
              simp -implicitDefEqProofs only [push_cast, ↓reduceIte, Nat.reduceEqDiff, Nat.reduceAdd, Nat.reduceMul, Nat.reduceSub, Nat.reduceLeDiff, Nat.reduceLT, reduceCtorEq]
              refine hK18 _ ?_
              clear hK18
              refine SC.block ?_
              refine SC.loop (fun i : Nat => ⟨[(2, .v (.int .i64 w)), (6, .own (.l 6) 0), (7, .own (.l 7) 0), (8, .own (.l 8) 0), (9, .own (.l 9) 0), (10, .v (.int .i64 i))], [(.l 6, .box [.v (.int .i64 0), .v (.slice none 0 0), .v (.bool false), .v (.int .i64 0)] 31), (.l 7, .box [.v (.int .i64 p.first), .v (.slice ap p.l.length cp), .v (.bool p.done)] 24), (.l 8, .box [.v (.int .i64 e.first), .v (.slice ae e.l.length ce), .v (.bool e.done)] 24), (.l 9, .box [.v (.int .i64 p.first), .row (.l 900), .v (.bool d)] 24), (.l 900, .row 57 20 (befL (e.l.take i) p.first).length (segsC (befL (e.l.take i) p.first)))], F⟩) (fun i => i ≤ e.l.length) (fun i => e.l.length - i) 0 (Le.refl _) (Nat.zero_le _) fun i hx => ?_
              refine SC.seqN [2, 6, 7, 8, 9, 10] [.l 6, .l 7, .l 8, .l 9, .l 77, .l 78, .l 84, .l 900] fun K19 hK19 => ?_
              refine SC.seqN [2, 6, 7, 8, 9, 10, 58] [.l 6, .l 7, .l 8, .l 9, .l 77, .l 78, .l 84, .l 900] fun K20 hK20 => SC.region ?_
              simp -implicitDefEqProofs only [push_cast, ↓reduceIte, Nat.reduceEqDiff, Nat.reduceAdd, Nat.reduceMul, Nat.reduceSub, Nat.reduceLeDiff, Nat.reduceLT, reduceCtorEq]
              refine hK20 _ ?_
              clear hK20
              refine SC.cond ?_
              simp -implicitDefEqProofs only [push_cast, ↓reduceIte, Nat.reduceEqDiff, Nat.reduceAdd, Nat.reduceMul, Nat.reduceSub, Nat.reduceLeDiff, Nat.reduceLT, reduceCtorEq]
              refine ⟨fun h5 => ?_, fun h5 => ?_⟩
              · skip
                have hil : i < e.l.length := by omega
                have hs : e.l[i]? = some e.l[i] := List.getElem?_eq_getElem hil
                have hbl : (befL (e.l.take i) p.first).length ≤ 1000 := by have := befL_le (e.l.take i) p.first; rw [List.length_take] at this; omega
                refine SC.skip ?_
                simp -implicitDefEqProofs only [push_cast, ↓reduceIte, Nat.reduceEqDiff, Nat.reduceAdd, Nat.reduceMul, Nat.reduceSub, Nat.reduceLeDiff, Nat.reduceLT, reduceCtorEq]
                refine hK19 _ ?_
                clear hK19
                refine SC.seqN [2, 6, 7, 8, 9, 10] [.l 6, .l 7, .l 8, .l 9, .l 77, .l 78, .l 84, .l 900] fun K21 hK21 => ?_
                refine SC.block ?_
                refine SC.seqN [2, 6, 7, 8, 9, 10, 69] [.l 6, .l 7, .l 8, .l 9, .l 77, .l 78, .l 84, .l 900] fun K22 hK22 => SC.drawnP (.take 0 (.take 2 (.take 6 (.load 1 (.take 3 (.take 4 (.load 5 (.load 7 (.take 8 (.done)))))))))) (by kernel_rfl) (by kernel_rfl) (fun _ _ h => h) ?_
                simp -implicitDefEqProofs only [push_cast, ↓reduceIte, Nat.reduceEqDiff, Nat.reduceAdd, Nat.reduceMul, Nat.reduceSub, Nat.reduceLeDiff, Nat.reduceLT, reduceCtorEq]
                have key22 : ∀ b, b = decide (e.l[i].num < p.first) → K22 ⟨[(2, .v (.int .i64 w)), (6, .own (.l 6) 0), (7, .own (.l 7) 0), (8, .own (.l 8) 0), (9, .own (.l 9) 0), (10, .v (.int .i64 i)), (69, .v (.bool b))], [(.l 6, .box [.v (.int .i64 0), .v (.slice none 0 0), .v (.bool false), .v (.int .i64 0)] 31), (.l 7, .box [.v (.int .i64 p.first), .v (.slice ap p.l.length cp), .v (.bool p.done)] 24), (.l 8, .box [.v (.int .i64 e.first), .v (.slice ae e.l.length ce), .v (.bool e.done)] 24), (.l 9, .box [.v (.int .i64 p.first), .row (.l 900), .v (.bool d)] 24), (.l 900, .row 57 20 (befL (e.l.take i) p.first).length (segsC (befL (e.l.take i) p.first)))], F⟩ := by
                  intro b hb
                  subst hb
                  refine hK22 _ ?_
                  clear hK22
                  refine SC.cond ?_
                  simp -implicitDefEqProofs only [push_cast, ↓reduceIte, Nat.reduceEqDiff, Nat.reduceAdd, Nat.reduceMul, Nat.reduceSub, Nat.reduceLeDiff, Nat.reduceLT, reduceCtorEq]
                  refine ⟨fun h6 => ?_, fun h6 => ?_⟩
                  · skip
                    refine SC.drawnP (.take 0 (.take 2 (.take 4 (.load 3 (.take 5 (.load 6 (.forkE 1 [72, 75] (.forkE 7 [72] (.forkE 8 [72] (.take 9 (.fork 10 (.done) (.stop))) (.stop)) (.stop)) (.forkE 7 [72] (.forkE 1 [72] (.forkE 8 [72] (.take 9 (.fork 10 (.done) (.stop))) (.stop)) (.stop)) (.stop))))))))) (by kernel_rfl) (by kernel_rfl) (fun _ _ h => h) ?_
                    simp -implicitDefEqProofs only [push_cast, ↓reduceIte, Nat.reduceEqDiff, Nat.reduceAdd, Nat.reduceMul, Nat.reduceSub, Nat.reduceLeDiff, Nat.reduceLT, reduceCtorEq]
                    clear key12
                    suffices hk : K21 ⟨[(2, .v (.int .i64 w)), (6, .own (.l 6) 0), (7, .own (.l 7) 0), (8, .own (.l 8) 0), (9, .own (.l 9) 0), (10, .v (.int .i64 i))], [(.l 6, .box [.v (.int .i64 0), .v (.slice none 0 0), .v (.bool false), .v (.int .i64 0)] 31), (.l 7, .box [.v (.int .i64 p.first), .v (.slice ap p.l.length cp), .v (.bool p.done)] 24), (.l 8, .box [.v (.int .i64 e.first), .v (.slice ae e.l.length ce), .v (.bool e.done)] 24), (.l 9, .box [.v (.int .i64 p.first), .row (.l 78), .v (.bool d)] 24), (.l 77, .row 57 20 1 (segC e.l[i])), (.l 78, .row 57 20 ((befL (e.l.take i) p.first).length + 1) (segsC (befL (e.l.take i) p.first) ++ segC e.l[i]))], F⟩ by
                      repeat' (first
                        | exact hk
                        | exact segC_one e.l[i]
                        | (with_reducible refine And.intro (rowF_some hFe (segsC_ne (by omega))) ?_)
                        | (with_reducible refine loadSeg i hFe hs ?_ ?_ ?_
                           · omega
                           · rfl
                           simp -implicitDefEqProofs only [push_cast, ↓reduceIte, Nat.reduceEqDiff, Nat.reduceAdd, Nat.reduceMul, Nat.reduceSub, Nat.reduceLeDiff, Nat.reduceLT, reduceCtorEq, segV, segC])
                        | (with_reducible refine And.intro (by omega) ?_)
                        | (with_reducible refine And.intro ?_ ?_)
                        | intro h)
                      all_goals (first | omega | (rw [mxl]; omega))
                    refine hK21 _ ?_
                    clear hK21
                    refine SC.of_le ?_ (Le.sw _ [(78, 900)])
                    simp -implicitDefEqProofs only [push_cast, ↓reduceIte, Nat.reduceEqDiff, Nat.reduceAdd, Nat.reduceMul, Nat.reduceSub, Nat.reduceLeDiff, Nat.reduceLT, reduceCtorEq]
                    refine SC.region ?_
                    simp -implicitDefEqProofs only [push_cast, ↓reduceIte, Nat.reduceEqDiff, Nat.reduceAdd, Nat.reduceMul, Nat.reduceSub, Nat.reduceLeDiff, Nat.reduceLT, reduceCtorEq]
                    have hbs := befL_succ hil p.first
                    refine ⟨by omega, i + 1, by omega, by omega, Le.trans (Le.norm _ [2, 6, 7, 8, 9, 10] [.l 6, .l 7, .l 8, .l 9, .l 900]) ?_⟩
                    first
                      | (rw [if_pos (show e.l[i].num < p.first from h6)] at hbs
                         have h1 : (befL (e.l.take (i + 1)) p.first).length = (befL (e.l.take i) p.first).length + 1 := by rw [hbs]; simp
                         have h2 : segsC (befL (e.l.take (i + 1)) p.first) = segsC (befL (e.l.take i) p.first) ++ segC e.l[i] := by rw [hbs, segsC_append]; simp [segsC]
                         simp -implicitDefEqProofs only [push_cast, ↓reduceIte, Nat.reduceEqDiff, Nat.reduceAdd, Nat.reduceMul, Nat.reduceSub, Nat.reduceLeDiff, Nat.reduceLT, reduceCtorEq]
                         rw [h1, h2]
                         exact Le.refl _)
                      | (rw [if_neg (show ¬ e.l[i].num < p.first by omega)] at hbs
                         simp -implicitDefEqProofs only [push_cast, ↓reduceIte, Nat.reduceEqDiff, Nat.reduceAdd, Nat.reduceMul, Nat.reduceSub, Nat.reduceLeDiff, Nat.reduceLT, reduceCtorEq]
                         rw [hbs]
                         exact Le.refl _)
                  · skip
                    refine SC.skip ?_
                    simp -implicitDefEqProofs only [push_cast, ↓reduceIte, Nat.reduceEqDiff, Nat.reduceAdd, Nat.reduceMul, Nat.reduceSub, Nat.reduceLeDiff, Nat.reduceLT, reduceCtorEq]
                    refine hK21 _ ?_
                    clear hK21
                    refine SC.region ?_
                    simp -implicitDefEqProofs only [push_cast, ↓reduceIte, Nat.reduceEqDiff, Nat.reduceAdd, Nat.reduceMul, Nat.reduceSub, Nat.reduceLeDiff, Nat.reduceLT, reduceCtorEq]
                    have hbs := befL_succ hil p.first
                    refine ⟨by omega, i + 1, by omega, by omega, Le.trans (Le.norm _ [2, 6, 7, 8, 9, 10] [.l 6, .l 7, .l 8, .l 9, .l 900]) ?_⟩
                    first
                      | (rw [if_pos (show e.l[i].num < p.first from h6)] at hbs
                         have h1 : (befL (e.l.take (i + 1)) p.first).length = (befL (e.l.take i) p.first).length + 1 := by rw [hbs]; simp
                         have h2 : segsC (befL (e.l.take (i + 1)) p.first) = segsC (befL (e.l.take i) p.first) ++ segC e.l[i] := by rw [hbs, segsC_append]; simp [segsC]
                         simp -implicitDefEqProofs only [push_cast, ↓reduceIte, Nat.reduceEqDiff, Nat.reduceAdd, Nat.reduceMul, Nat.reduceSub, Nat.reduceLeDiff, Nat.reduceLT, reduceCtorEq]
                         rw [h1, h2]
                         exact Le.refl _)
                      | (rw [if_neg (show ¬ e.l[i].num < p.first by omega)] at hbs
                         simp -implicitDefEqProofs only [push_cast, ↓reduceIte, Nat.reduceEqDiff, Nat.reduceAdd, Nat.reduceMul, Nat.reduceSub, Nat.reduceLeDiff, Nat.reduceLT, reduceCtorEq]
                         rw [hbs]
                         exact Le.refl _)
                clear hK12 hK21 hK22
                repeat' (first
                  | (with_reducible refine And.intro (rowF_some hFe (segsC_ne (by omega))) ?_)
                  | (with_reducible refine loadSegC i hFe hs ?_ ?_ ?_
                     · omega
                     · omega
                     simp -implicitDefEqProofs only [push_cast, ↓reduceIte, Nat.reduceEqDiff, Nat.reduceAdd, Nat.reduceMul, Nat.reduceSub, Nat.reduceLeDiff, Nat.reduceLT, reduceCtorEq, segC])
                  | (with_reducible refine And.intro (by omega) ?_)
                  | (with_reducible refine And.intro ?_ ?_)
                  | intro h)
                all_goals exact key22 _ rfl
              · skip
                refine SC.exit ?_
                simp -implicitDefEqProofs only [push_cast, ↓reduceIte, Nat.reduceEqDiff, Nat.reduceAdd, Nat.reduceMul, Nat.reduceSub, Nat.reduceLeDiff, Nat.reduceLT, reduceCtorEq]
                have hi : i = e.l.length := by omega
                have := key12 (befL (e.l.take i) p.first) (by rw [hi, List.take_of_length_le (Nat.le_refl _)]; simp only [accL, h4, if_true])
                exact this
            · skip
              refine SC.skip ?_
              simp -implicitDefEqProofs only [push_cast, ↓reduceIte, Nat.reduceEqDiff, Nat.reduceAdd, Nat.reduceMul, Nat.reduceSub, Nat.reduceLeDiff, Nat.reduceLT, reduceCtorEq]
              exact key12 [] (by simp only [accL, h4]; rfl)
          clear hK12 hK17
          clear key12
          repeat' (first
            | (with_reducible refine callL_fn0 (refNext_fn e _ F hPe hke) ?_ (fun _ h => h) ?_
               · rfl
               intro v G hv
               subst hv
               simp -implicitDefEqProofs only [push_cast, ↓reduceIte, Nat.reduceEqDiff, Nat.reduceAdd, Nat.reduceMul, Nat.reduceSub, Nat.reduceLeDiff, Nat.reduceLT, reduceCtorEq])
            | (with_reducible refine And.intro (by omega) ?_)
            | (with_reducible refine And.intro ?_ ?_)
            | intro h)
          all_goals (refine key17 _ ?_; clear key17; rw [Bool.eq_iff_iff]; simp only [mJoin, Bool.and_eq_true, decide_eq_true_eq, Bool.false_eq_true, false_iff, true_iff]; omega)
        clear hK11
        repeat' (first | refine And.intro ?_ ?_ | intro h)
        all_goals exact key11 _ (by simp [*])
    refine SC.seqN [2, 3, 4, 6, 7, 8, 21] [.l 3, .l 4, .l 6, .l 7, .l 8, .l 77, .l 78, .l 84, .l 900] fun K23 hK23 => SC.drawnP (.load 0 (.load 2 (.forkE 1 [3] (.fork 3 (.take 4 (.done)) (.stop)) (.stop)))) (by kernel_rfl) (by kernel_rfl) (fun _ _ h => h) ?_
    simp -implicitDefEqProofs only [push_cast, ↓reduceIte, Nat.reduceEqDiff, Nat.reduceAdd, Nat.reduceMul, Nat.reduceSub, Nat.reduceLeDiff, Nat.reduceLT, reduceCtorEq]
    have key23 : ∀ b, b = decide (A.next < B.next) → K23 ⟨[(2, .v (.int .i64 w)), (3, .own (.l 3) 0), (4, .own (.l 4) 0), (6, .own (.l 6) 0), (7, .own (.l 7) 0), (8, .own (.l 8) 0), (21, .v (.bool b))], [(.l 3, .box [.v (.int .i64 A.first), .v (.slice aA A.l.length cA), .v (.bool A.done)] 24), (.l 4, .box [.v (.int .i64 B.first), .v (.slice aB B.l.length cB), .v (.bool B.done)] 24), (.l 6, .box [.v (.int .i64 0), .v (.slice none 0 0), .v (.bool false), .v (.int .i64 0)] 31), (.l 7, .box [.v (.int .i64 A.first), .v (.slice aA A.l.length cA), .v (.bool A.done)] 24), (.l 8, .box [.v (.int .i64 B.first), .v (.slice aB B.l.length cB), .v (.bool B.done)] 24)], F⟩ := by
      intro b hb
      subst hb
      refine hK23 _ ?_
      clear hK23
      refine SC.cond ?_
      simp -implicitDefEqProofs only [push_cast, ↓reduceIte, Nat.reduceEqDiff, Nat.reduceAdd, Nat.reduceMul, Nat.reduceSub, Nat.reduceLeDiff, Nat.reduceLT, reduceCtorEq]
      refine ⟨fun h7 => ?_, fun h7 => ?_⟩
      · skip
        refine SC.seqN [2, 3, 4, 6, 7, 8] [.l 3, .l 4, .l 6, .l 7, .l 8, .l 77, .l 78, .l 84, .l 900] fun K24 hK24 => SC.region ?_
        simp -implicitDefEqProofs only [push_cast, ↓reduceIte, Nat.reduceEqDiff, Nat.reduceAdd, Nat.reduceMul, Nat.reduceSub, Nat.reduceLeDiff, Nat.reduceLT, reduceCtorEq]
        refine hK24 _ ?_
        clear hK24
        refine SC.region ?_
        simp -implicitDefEqProofs only [push_cast, ↓reduceIte, Nat.reduceEqDiff, Nat.reduceAdd, Nat.reduceMul, Nat.reduceSub, Nat.reduceLeDiff, Nat.reduceLT, reduceCtorEq]
        exact key7 A B aA aB cA cB (by simp [mE, h7]) (by simp [mL, h7]) hcA hcB hFA hFB
      · skip
        refine SC.skip ?_
        simp -implicitDefEqProofs only [push_cast, ↓reduceIte, Nat.reduceEqDiff, Nat.reduceAdd, Nat.reduceMul, Nat.reduceSub, Nat.reduceLeDiff, Nat.reduceLT, reduceCtorEq]
        exact key7 B A aB aA cB cA (by simp [mE]; omega) (by simp [mL]; omega) hcB hcA hFB hFA
    clear hK7 hK23
    have hPA : isPl A F (plV A.first aA A.l.length cA A.done) := ⟨aA, cA, rfl, hcA, hFA⟩
    have hPB : isPl B F (plV B.first aB B.l.length cB B.done) := ⟨aB, cB, rfl, hcB, hFB⟩
    repeat' (first
      | (with_reducible refine callL_fn0 (refNext_fn A _ F hPA hkA) ?_ (fun _ h => h) ?_
         · rfl
         intro v G hv
         subst hv
         simp -implicitDefEqProofs only [push_cast, ↓reduceIte, Nat.reduceEqDiff, Nat.reduceAdd, Nat.reduceMul, Nat.reduceSub, Nat.reduceLeDiff, Nat.reduceLT, reduceCtorEq])
      | (with_reducible refine callL_fn0 (refNext_fn B _ F hPB hkB) ?_ (fun _ h => h) ?_
         · rfl
         intro v G hv
         subst hv
         simp -implicitDefEqProofs only [push_cast, ↓reduceIte, Nat.reduceEqDiff, Nat.reduceAdd, Nat.reduceMul, Nat.reduceSub, Nat.reduceLeDiff, Nat.reduceLT, reduceCtorEq])
      | (with_reducible refine And.intro (by omega) ?_)
      | (with_reducible refine And.intro ?_ ?_)
      | intro h)
    all_goals exact key23 _ rfl
end Go.Proofs.YtmamodnpghlgcaaGreatDoor
/- Lists of numbers in memory; slices.IndexFunc over numbers; Part, End. -/

set_option linter.unusedSimpArgs false
set_option linter.unusedVariables false
set_option maxRecDepth 100000
set_option maxHeartbeats 4000000
namespace Go.Proofs.YtmamodnpghlgcaaGreatDoor
open Go.RowKit
def ints (l : List Int) : List Value := l.map (Value.int .i64)
theorem ints_length (l : List Int) : (ints l).length = l.length := by simp [ints]
theorem ints_ne {l : List Int} (h : 0 < l.length) : ints l ≠ [] := by intro hn; have := ints_length l; rw [hn] at this; simp at this; omega
theorem loadInt {n : Nat} {F : Fact} {a : Option Addr} {l : List Int} {k : SV → Prop} {j : Int} (i : Nat) {x : Int} (h : F.to (rowF a (ints l))) (hi : l[i]? = some x) (hj : j = (i : Int)) (hk : k (.v (.int .i64 x))) : loadF (some (false, n)) F ((a.getD default).add (j.toNat * 1)) k := by
  subst hj
  rw [Int.toNat_natCast, Nat.mul_one]
  exact loadF_one (.int .i64 x) h (by simp [ints, hi]) hk
def isInts (l : List Int) (F : Fact) (v : Value) : Prop := ∃ a c, v = .slice a l.length c ∧ l.length ≤ c ∧ F.to (rowF a (ints l))
theorem isInts.to {l : List Int} {F G : Fact} {v : Value} (h : isInts l F v) (hg : G.to F) : isInts l G v := by
  obtain ⟨a, c, h1, h2, h3⟩ := h
  exact ⟨a, c, h1, h2, Fact.to_trans hg h3⟩
theorem isPl.to {p : Pl} {F G : Fact} {v : Value} (h : isPl p F v) (hg : G.to F) : isPl p G v := by
  obtain ⟨a, c, h1, h2, h3⟩ := h
  exact ⟨a, c, h1, h2, Fact.to_trans hg h3⟩
def idxI (l : List Int) (f : Int → Bool) : Int := match l.findIdx? f with | some i => (i : Int) | none => -1
theorem idxI_none {l : List Int} {f : Int → Bool} (h : ∀ (j : Nat) s, l[j]? = some s → f s = false) : idxI l f = -1 := by
  have : l.findIdx? f = none := by
    rw [List.findIdx?_eq_none_iff]
    intro s hs
    obtain ⟨j, hj⟩ := List.getElem?_of_mem hs
    exact h j s hj
  simp [idxI, this]
theorem idxI_some {l : List Int} {f : Int → Bool} {i : Nat} (hi : i < l.length) (h : f l[i] = true) (hb : ∀ j (hj : j < i), f l[j] = false) : idxI l f = i := by
  have : l.findIdx? f = some i := by
    rw [List.findIdx?_eq_some_iff_getElem]
    exact ⟨hi, h, fun j hj => by simp [hb j hj]⟩
  simp [idxI, this]
theorem idxI_lt (l : List Int) (f : Int → Bool) : idxI l f < l.length ∧ -1 ≤ idxI l f := by
  unfold idxI
  cases h : l.findIdx? f with
  | none => simp only; omega
  | some i =>
    obtain ⟨h1, _⟩ := List.findIdx?_eq_some_iff_getElem.1 h
    simp only; omega
theorem indexInt_fn (l : List Int) (a : Option Addr) (c : Nat) (g : FuncId) (caps : Array Value) (f : Int → Bool) (F : Fact) (hF : F.to (rowF a (ints l))) (hl : l.length < 1000000) (hok : fnOK Tryz.prog g = true) (hg : ∀ s ∈ l, Fn Tryz.prog g (.int .i64 s :: caps.toList) F fun v _ => v = .bool (f s)) :
    Fn Tryz.prog 65 [.slice a l.length c, .func (.func g) #[] caps] F fun v _ => v = .int .i64 (idxI l f) := by
  refine Fn.of_body Tryz.func65 rfl (Nat.le_of_ble_eq_true rfl) (Nat.le_of_ble_eq_true rfl) (by kernel_rfl) ?_
  refine SC.seqN [0, 1] [] fun K1 hK1 => SC.region ?_
  simp -implicitDefEqProofs only [push_cast, ↓reduceIte, Nat.reduceEqDiff, Nat.reduceAdd, Nat.reduceMul, Nat.reduceSub, Nat.reduceLeDiff, Nat.reduceLT, reduceCtorEq]
  refine hK1 _ ?_
  clear hK1
  refine SC.seqN [] [] fun K2 hK2 => ?_
  refine SC.seqN [0, 1, 7, 8] [] fun K3 hK3 => SC.region ?_
  simp -implicitDefEqProofs only [push_cast, ↓reduceIte, Nat.reduceEqDiff, Nat.reduceAdd, Nat.reduceMul, Nat.reduceSub, Nat.reduceLeDiff, Nat.reduceLT, reduceCtorEq]
  refine hK3 _ ?_
  clear hK3
  refine SC.block ?_
  refine SC.loop (fun i : Nat => ⟨[(0, .v (.slice a l.length c)), (1, .v (.func (.func g) #[] caps)), (7, .v (.int .i64 l.length)), (8, .v (.int .i64 i))], [], F⟩) (fun i => i ≤ l.length ∧ ∀ j s, j < i → l[j]? = some s → f s = false) (fun i => l.length - i) 0 (Le.refl _) ⟨Nat.zero_le _, fun j s hj => absurd hj (Nat.not_lt_zero j)⟩ fun i hx => ?_
  refine SC.seqN [0, 1, 7, 8, 9] [] fun K4 hK4 => SC.region ?_
  simp -implicitDefEqProofs only [push_cast, ↓reduceIte, Nat.reduceEqDiff, Nat.reduceAdd, Nat.reduceMul, Nat.reduceSub, Nat.reduceLeDiff, Nat.reduceLT, reduceCtorEq]
  refine hK4 _ ?_
  clear hK4
  refine SC.seqN [0, 1, 7, 8] [] fun K5 hK5 => ?_
  refine SC.cond ?_
  simp -implicitDefEqProofs only [push_cast, ↓reduceIte, Nat.reduceEqDiff, Nat.reduceAdd, Nat.reduceMul, Nat.reduceSub, Nat.reduceLeDiff, Nat.reduceLT, reduceCtorEq]
  refine ⟨fun h1 => ?_, fun h1 => ?_⟩
  · skip
    refine SC.skip ?_
    simp -implicitDefEqProofs only [push_cast, ↓reduceIte, Nat.reduceEqDiff, Nat.reduceAdd, Nat.reduceMul, Nat.reduceSub, Nat.reduceLeDiff, Nat.reduceLT, reduceCtorEq]
    refine hK5 _ ?_
    clear hK5
    refine SC.seqN [0, 1, 7, 8] [] fun K6 hK6 => ?_
    refine SC.block ?_
    refine SC.seqN [0, 1, 5, 7, 8] [] fun K7 hK7 => SC.region ?_
    simp -implicitDefEqProofs only [push_cast, ↓reduceIte, Nat.reduceEqDiff, Nat.reduceAdd, Nat.reduceMul, Nat.reduceSub, Nat.reduceLeDiff, Nat.reduceLT, reduceCtorEq]
    refine hK7 _ ?_
    clear hK7
    refine SC.seqN [0, 1, 5, 7, 8, 16] [] fun K8 hK8 => SC.region ?_
    simp -implicitDefEqProofs only [push_cast, ↓reduceIte, Nat.reduceEqDiff, Nat.reduceAdd, Nat.reduceMul, Nat.reduceSub, Nat.reduceLeDiff, Nat.reduceLT, reduceCtorEq]
    have hil : i < l.length := by omega
    have hp : l[i]? = some l[i] := List.getElem?_eq_getElem hil
    refine ⟨by omega, rowF_some hF (ints_ne (by omega)), loadInt i hF hp rfl ?_⟩
    simp -implicitDefEqProofs only [push_cast, ↓reduceIte, Nat.reduceEqDiff, Nat.reduceAdd, Nat.reduceMul, Nat.reduceSub, Nat.reduceLeDiff, Nat.reduceLT, reduceCtorEq]
    refine ⟨hok, callL_fn0 (hg l[i] (List.getElem_mem hil)) (by simp [vals_cons, vals_map]) (fun _ h => h) fun v G hv => ?_⟩
    subst hv
    simp -implicitDefEqProofs only [push_cast, ↓reduceIte, Nat.reduceEqDiff, Nat.reduceAdd, Nat.reduceMul, Nat.reduceSub, Nat.reduceLeDiff, Nat.reduceLT, reduceCtorEq]
    refine hK8 _ ?_
    clear hK8
    refine SC.cond ?_
    simp -implicitDefEqProofs only [push_cast, ↓reduceIte, Nat.reduceEqDiff, Nat.reduceAdd, Nat.reduceMul, Nat.reduceSub, Nat.reduceLeDiff, Nat.reduceLT, reduceCtorEq]
    refine ⟨fun h2 => ?_, fun h2 => ?_⟩
    · skip
      refine SC.seqN [4] [] fun K9 hK9 => SC.region ?_
      simp -implicitDefEqProofs only [push_cast, ↓reduceIte, Nat.reduceEqDiff, Nat.reduceAdd, Nat.reduceMul, Nat.reduceSub, Nat.reduceLeDiff, Nat.reduceLT, reduceCtorEq]
      refine hK9 _ ?_
      clear hK9
      refine SC.ret ?_
      simp -implicitDefEqProofs only [push_cast, ↓reduceIte, Nat.reduceEqDiff, Nat.reduceAdd, Nat.reduceMul, Nat.reduceSub, Nat.reduceLeDiff, Nat.reduceLT, reduceCtorEq, Tryz.f65]
      rw [idxI_some hil h2 fun j hj => hx.2 j _ hj (List.getElem?_eq_getElem (by omega))]
    · skip
      refine SC.skip ?_
      simp -implicitDefEqProofs only [push_cast, ↓reduceIte, Nat.reduceEqDiff, Nat.reduceAdd, Nat.reduceMul, Nat.reduceSub, Nat.reduceLeDiff, Nat.reduceLT, reduceCtorEq]
      refine hK6 _ ?_
      clear hK6
      refine SC.region ?_
      simp -implicitDefEqProofs only [push_cast, ↓reduceIte, Nat.reduceEqDiff, Nat.reduceAdd, Nat.reduceMul, Nat.reduceSub, Nat.reduceLeDiff, Nat.reduceLT, reduceCtorEq]
      refine ⟨by omega, i + 1, ⟨by omega, fun j s hj hs => ?_⟩, by omega, Le.trans (Le.norm _ [0, 1, 7, 8] []) ?_⟩
      · rcases Nat.lt_succ_iff_lt_or_eq.1 hj with hj | rfl
        · exact hx.2 j s hj hs
        · rw [hp] at hs
          obtain rfl := Option.some.inj hs
          exact h2
      · simp -implicitDefEqProofs only [push_cast, ↓reduceIte, Nat.reduceEqDiff, Nat.reduceAdd, Nat.reduceMul, Nat.reduceSub, Nat.reduceLeDiff, Nat.reduceLT, reduceCtorEq]
        exact Le.refl _
  · skip
    refine SC.exit ?_
    simp -implicitDefEqProofs only [push_cast, ↓reduceIte, Nat.reduceEqDiff, Nat.reduceAdd, Nat.reduceMul, Nat.reduceSub, Nat.reduceLeDiff, Nat.reduceLT, reduceCtorEq]
    refine hK2 _ ?_
    clear hK2
    refine SC.seqN [4] [] fun K10 hK10 => SC.region ?_
    simp -implicitDefEqProofs only [push_cast, ↓reduceIte, Nat.reduceEqDiff, Nat.reduceAdd, Nat.reduceMul, Nat.reduceSub, Nat.reduceLeDiff, Nat.reduceLT, reduceCtorEq]
    refine hK10 _ ?_
    clear hK10
    refine SC.ret ?_
    simp -implicitDefEqProofs only [push_cast, ↓reduceIte, Nat.reduceEqDiff, Nat.reduceAdd, Nat.reduceMul, Nat.reduceSub, Nat.reduceLeDiff, Nat.reduceLT, reduceCtorEq, Tryz.f65]
    rw [idxI_none fun j s hs => hx.2 j s (by have := (List.getElem?_eq_some_iff.1 hs).1; omega) hs]
theorem containsInt_fn (l : List Int) (a : Option Addr) (c : Nat) (g : FuncId) (caps : Array Value) (f : Int → Bool) (F : Fact) (hF : F.to (rowF a (ints l))) (hl : l.length < 1000000) (hok : fnOK Tryz.prog g = true) (hg : ∀ s ∈ l, Fn Tryz.prog g (.int .i64 s :: caps.toList) F fun v _ => v = .bool (f s)) :
    Fn Tryz.prog 61 [.slice a l.length c, .func (.func g) #[] caps] F fun v _ => v = .bool (l.any f) := by
  refine Fn.of_body Tryz.func61 rfl (Nat.le_of_ble_eq_true rfl) (Nat.le_of_ble_eq_true rfl) (by kernel_rfl) ?_
  refine SC.seqN [0, 1] [] fun K1 hK1 => SC.region ?_
  simp -implicitDefEqProofs only [push_cast, ↓reduceIte, Nat.reduceEqDiff, Nat.reduceAdd, Nat.reduceMul, Nat.reduceSub, Nat.reduceLeDiff, Nat.reduceLT, reduceCtorEq]
  refine hK1 _ ?_
  clear hK1
  refine SC.seqN [4] [] fun K2 hK2 => SC.region ?_
  simp -implicitDefEqProofs only [push_cast, ↓reduceIte, Nat.reduceEqDiff, Nat.reduceAdd, Nat.reduceMul, Nat.reduceSub, Nat.reduceLeDiff, Nat.reduceLT, reduceCtorEq]
  refine callL_fn0 (indexInt_fn l a c g caps f F hF hl hok hg) rfl (fun _ h => h) fun v G hv => ?_
  subst hv
  simp -implicitDefEqProofs only [push_cast, ↓reduceIte, Nat.reduceEqDiff, Nat.reduceAdd, Nat.reduceMul, Nat.reduceSub, Nat.reduceLeDiff, Nat.reduceLT, reduceCtorEq]
  refine hK2 _ ?_
  clear hK2
  refine SC.ret ?_
  simp -implicitDefEqProofs only [push_cast, ↓reduceIte, Nat.reduceEqDiff, Nat.reduceAdd, Nat.reduceMul, Nat.reduceSub, Nat.reduceLeDiff, Nat.reduceLT, reduceCtorEq, Tryz.f61]
  cases hf : l.findIdx? f with
  | none =>
    have h1 : l.any f = false := by rw [List.any_eq_false]; simpa [List.findIdx?_eq_none_iff] using hf
    have h2 : idxI l f = -1 := by simp [idxI, hf]
    rw [h1, h2]; rfl
  | some i =>
    obtain ⟨hi, h3, _⟩ := List.findIdx?_eq_some_iff_getElem.1 hf
    have h1 : l.any f = true := List.any_eq_true.2 ⟨_, List.getElem_mem hi, h3⟩
    have h2 : idxI l f = i := by simp [idxI, hf]
    rw [h1, h2]
    simp
theorem seen1_fn (x t : Int) (b : Nat) (F : Fact) (hF : F.to (cellsF b 0 [.int .i64 t])) : Fn Tryz.prog 66 [.int .i64 x, .pointer (some ⟨b, 0, none⟩)] F fun v _ => v = .bool (decide (t < x)) := by
  refine Fn.of_body Tryz.func66 rfl (Nat.le_of_ble_eq_true rfl) (Nat.le_of_ble_eq_true rfl) (by kernel_rfl) ?_
  refine SC.seqN [0, 1] [] fun K1 hK1 => SC.region ?_
  simp -implicitDefEqProofs only [push_cast, ↓reduceIte, Nat.reduceEqDiff, Nat.reduceAdd, Nat.reduceMul, Nat.reduceSub, Nat.reduceLeDiff, Nat.reduceLT, reduceCtorEq]
  refine hK1 _ ?_
  clear hK1
  refine SC.seqN [3] [] fun K2 hK2 => SC.region ?_
  simp -implicitDefEqProofs only [push_cast, ↓reduceIte, Nat.reduceEqDiff, Nat.reduceAdd, Nat.reduceMul, Nat.reduceSub, Nat.reduceLeDiff, Nat.reduceLT, reduceCtorEq]
  refine loadAt hF ?_
  simp -implicitDefEqProofs only [push_cast, ↓reduceIte, Nat.reduceEqDiff, Nat.reduceAdd, Nat.reduceMul, Nat.reduceSub, Nat.reduceLeDiff, Nat.reduceLT, reduceCtorEq]
  refine hK2 _ ?_
  clear hK2
  refine SC.ret ?_
  simp -implicitDefEqProofs only [push_cast, ↓reduceIte, Nat.reduceEqDiff, Nat.reduceAdd, Nat.reduceMul, Nat.reduceSub, Nat.reduceLeDiff, Nat.reduceLT, reduceCtorEq, Tryz.f66]
def partM (l : List Seg) (f t : Int) (done : Bool) : Pl := match l[0]? with
  | none => pl0
  | some s => ⟨s.num + f, (l.drop f.toNat).take (t - f).toNat, done && decide (t = (l.length : Int))⟩
theorem part_fn (l : List Seg) (a : Option Addr) (c : Nat) (f t : Int) (done : Bool) (F : Fact) (hF : F.to (rowF a (segsC l))) (hl : l.length < 1000000) (hc : l.length ≤ c) (hf : 0 ≤ f) (ht : f ≤ t) (htl : t ≤ l.length) (hs : ∀ s ∈ l, s.Ok) :
    Fn Tryz.prog 37 [.slice a l.length c, .int .i64 f, .int .i64 t, .bool done] F fun v G => isPl (partM l f t done) G v := by
  refine Fn.of_body Tryz.func37 rfl (Nat.le_of_ble_eq_true rfl) (Nat.le_of_ble_eq_true rfl) (by kernel_rfl) ?_
  refine SC.seqN [0, 1, 2, 3, 8] [.l 8, .l 19, .l 24] fun K1 hK1 => SC.region ?_
  simp -implicitDefEqProofs only [push_cast, ↓reduceIte, Nat.reduceEqDiff, Nat.reduceAdd, Nat.reduceMul, Nat.reduceSub, Nat.reduceLeDiff, Nat.reduceLT, reduceCtorEq]
  refine hK1 _ ?_
  clear hK1
  refine SC.seqN [0, 1, 2, 3, 8] [.l 8, .l 19, .l 24] fun K2 hK2 => ?_
  refine SC.seqN [0, 1, 2, 3, 8, 11] [.l 8, .l 19, .l 24] fun K3 hK3 => SC.region ?_
  simp -implicitDefEqProofs only [push_cast, ↓reduceIte, Nat.reduceEqDiff, Nat.reduceAdd, Nat.reduceMul, Nat.reduceSub, Nat.reduceLeDiff, Nat.reduceLT, reduceCtorEq]
  refine hK3 _ ?_
  clear hK3
  refine SC.cond ?_
  simp -implicitDefEqProofs only [push_cast, ↓reduceIte, Nat.reduceEqDiff, Nat.reduceAdd, Nat.reduceMul, Nat.reduceSub, Nat.reduceLeDiff, Nat.reduceLT, reduceCtorEq]
  refine ⟨fun h1 => ?_, fun h1 => ?_⟩
  · skip
    refine SC.seqN [8] [.l 8, .l 19, .l 24] fun K4 hK4 => SC.region ?_
    simp -implicitDefEqProofs only [push_cast, ↓reduceIte, Nat.reduceEqDiff, Nat.reduceAdd, Nat.reduceMul, Nat.reduceSub, Nat.reduceLeDiff, Nat.reduceLT, reduceCtorEq]
    refine hK4 _ ?_
    clear hK4
    refine SC.ret ?_
    simp -implicitDefEqProofs only [push_cast, ↓reduceIte, Nat.reduceEqDiff, Nat.reduceAdd, Nat.reduceMul, Nat.reduceSub, Nat.reduceLeDiff, Nat.reduceLT, reduceCtorEq, Tryz.f37]
    have hn : l = [] := List.eq_nil_of_length_eq_zero (by omega)
    subst hn
    exact isPl0 _
  · skip
    have h0 : 0 < l.length := by omega
    have hg : l[0]? = some l[0] := List.getElem?_eq_getElem h0
    have hsk := hs _ (List.getElem_mem h0)
    have hlen : ((l.drop f.toNat).take (t - f).toNat).length = (t - f).toNat := by rw [List.length_take, List.length_drop]; omega
    have hln2 : t.toNat - f.toNat = (t - f).toNat := by omega
    have hF2 : F.to (rowF (slA a f.toNat c 20) (segsC ((l.drop f.toNat).take (t - f).toNat))) := by
      rw [← segsC_take, ← segsC_drop]
      exact rowF_take (rowF_drop hF _ (by rw [segsC_length]; omega)) _
    unfold Seg.Ok at hsk
    refine SC.skip ?_
    simp -implicitDefEqProofs only [push_cast, ↓reduceIte, Nat.reduceEqDiff, Nat.reduceAdd, Nat.reduceMul, Nat.reduceSub, Nat.reduceLeDiff, Nat.reduceLT, reduceCtorEq]
    refine hK2 _ ?_
    clear hK2
    refine SC.seqN [8] [.l 8, .l 19, .l 24] fun K5 hK5 => SC.drawnP (.take 0 (.take 1 (.take 2 (.take 4 (.take 7 (.take 8 (.take 9 (.take 10 (.take 12 (.load 3 (.take 5 (.forkE 6 [15] (.forkE 11 [15] (.take 13 (.take 14 (.take 15 (.take 16 (.take 17 (.take 18 (.take 19 (.fork 20 (.done) (.stop))))))))) (.stop)) (.stop))))))))))))) (by kernel_rfl) (by kernel_rfl) (fun _ _ h => h) ?_
    simp -implicitDefEqProofs only [push_cast, ↓reduceIte, Nat.reduceEqDiff, Nat.reduceAdd, Nat.reduceMul, Nat.reduceSub, Nat.reduceLeDiff, Nat.reduceLT, reduceCtorEq]
    suffices key5 : ∀ b, b = (done && decide (t = (l.length : Int))) → K5 ⟨[(8, .own (.l 8) 0)], [(.l 8, .box [.v (.int .i64 (l[0].num + f)), .row (.l 24), .v (.bool b)] 24), (.l 24, .row 57 20 (t - f).toNat (segsC ((l.drop f.toNat).take (t - f).toNat)))], F⟩ by
      clear hK5
      simp only [hln2]
      repeat' (first
        | (refine apF_segs ((l.drop f.toNat).take (t - f).toNat) hF2 hlen.symm rfl ⟨by rw [mxl]; omega, by simp only []; omega⟩ ?_
           simp -implicitDefEqProofs only [push_cast, ↓reduceIte, Nat.reduceEqDiff, Nat.reduceAdd, Nat.reduceMul, Nat.reduceSub, Nat.reduceLeDiff, Nat.reduceLT, reduceCtorEq])
        | (with_reducible refine And.intro (rowF_some hF (segsC_ne (by omega))) ?_)
        | (with_reducible refine loadSegC 0 hF hg ?_ ?_ ?_
           · omega
           · omega
           simp -implicitDefEqProofs only [push_cast, ↓reduceIte, Nat.reduceEqDiff, Nat.reduceAdd, Nat.reduceMul, Nat.reduceSub, Nat.reduceLeDiff, Nat.reduceLT, reduceCtorEq, segC])
        | (with_reducible refine And.intro (by omega) ?_)
        | (with_reducible refine And.intro ?_ ?_)
        | intro h
        | exact rfl)
      all_goals (refine key5 _ ?_; simp [*])
    intro b hb
    subst hb
    refine hK5 _ ?_
    clear hK5
    refine SC.frzRow (k := .l 24) rfl (by rw [segsC_length, hlen]) fun a2 b c2 hc2 => ?_
    simp -implicitDefEqProofs only [push_cast, ↓reduceIte, Nat.reduceEqDiff, Nat.reduceAdd, Nat.reduceMul, Nat.reduceSub, Nat.reduceLeDiff, Nat.reduceLT, reduceCtorEq]
    refine SC.ret ?_
    simp -implicitDefEqProofs only [push_cast, ↓reduceIte, Nat.reduceEqDiff, Nat.reduceAdd, Nat.reduceMul, Nat.reduceSub, Nat.reduceLeDiff, Nat.reduceLT, reduceCtorEq, Tryz.f37]
    refine ⟨a2, c2, ?_, ?_, ?_⟩
    · simp only [partM, hg, plV, hlen]
    · simp only [partM, hg, hlen]; exact hc2
    · simp only [partM, hg]; exact Fact.to_right (Fact.to_refl _)
theorem endP_fn (p : Pl) (v : Value) (F : Fact) (hp : isPl p F v) (hl : p.l.length < 1000000) : Fn Tryz.prog 31 [v] F fun v G => isPl ⟨p.first, p.l, true⟩ G v := by
  obtain ⟨a, c, rfl, hc, hF⟩ := hp
  refine Fn.of_body Tryz.func31 rfl (Nat.le_of_ble_eq_true rfl) (Nat.le_of_ble_eq_true rfl) (by kernel_rfl) ?_
  refine SC.seqN [1, 2] [.l 1, .l 2] fun K1 hK1 => SC.region ?_
  simp -implicitDefEqProofs only [push_cast, ↓reduceIte, Nat.reduceEqDiff, Nat.reduceAdd, Nat.reduceMul, Nat.reduceSub, Nat.reduceLeDiff, Nat.reduceLT, reduceCtorEq, plV]
  refine hK1 _ ?_
  clear hK1
  refine SC.seqN [1, 2] [.l 1, .l 2] fun K2 hK2 => SC.region ?_
  simp -implicitDefEqProofs only [push_cast, ↓reduceIte, Nat.reduceEqDiff, Nat.reduceAdd, Nat.reduceMul, Nat.reduceSub, Nat.reduceLeDiff, Nat.reduceLT, reduceCtorEq]
  refine callL_fn (clone_fn p.l a c F hF hl hc) rfl (fun _ h => h) ?_
  rintro v G ⟨ao, co, rfl, hco, hG⟩
  simp -implicitDefEqProofs only [push_cast, ↓reduceIte, Nat.reduceEqDiff, Nat.reduceAdd, Nat.reduceMul, Nat.reduceSub, Nat.reduceLeDiff, Nat.reduceLT, reduceCtorEq]
  refine hK2 _ ?_
  clear hK2
  refine SC.seqN [2] [.l 2] fun K3 hK3 => SC.region ?_
  simp -implicitDefEqProofs only [push_cast, ↓reduceIte, Nat.reduceEqDiff, Nat.reduceAdd, Nat.reduceMul, Nat.reduceSub, Nat.reduceLeDiff, Nat.reduceLT, reduceCtorEq]
  refine hK3 _ ?_
  clear hK3
  refine SC.ret ?_
  simp -implicitDefEqProofs only [push_cast, ↓reduceIte, Nat.reduceEqDiff, Nat.reduceAdd, Nat.reduceMul, Nat.reduceSub, Nat.reduceLeDiff, Nat.reduceLT, reduceCtorEq, Tryz.f31]
  exact ⟨ao, co, rfl, hco, Fact.to_right hG⟩
end Go.Proofs.YtmamodnpghlgcaaGreatDoor
/- Push, the specification's Push. -/

set_option linter.unusedSimpArgs false
set_option linter.unusedVariables false
set_option maxRecDepth 100000
set_option maxHeartbeats 4000000
namespace Go.Proofs.YtmamodnpghlgcaaGreatDoor
open Go.RowKit
def pushC (p : Pl) (s : Seg) : Bool := decide (s.num ≠ p.next) || (decide (0 < p.l.length) && decide (s.beg ≠ p.edge))
def pushO (p : Pl) (s : Seg) : Pl := ⟨p.first, p.l ++ [s], false⟩
def pushP (p : Pl) (s : Seg) (w : Int) : Pl × Int := if w < 1 ∨ 100 < w then (pl0, 1) else if p.done then (pl0, 4) else if pushC p s then (pl0, 3) else ((pushO p s).cut w, 0)
theorem segsC_snoc (l : List Seg) (s : Seg) : segsC (l ++ [s]) = segsC l ++ segC s := by rw [segsC_append]; simp [segsC]
theorem pushO_ok {p : Pl} {s : Seg} (hk : p.Ok) (hl : p.l.length ≤ 1000) : (pushO p s).Ok := ⟨by simp only [pushO, List.length_append, List.length_singleton]; omega, hk.f0, hk.f1⟩
theorem push_fn (p : Pl) (v : Value) (s : Seg) (w : Int) (F : Fact) (hp : isPl p F v) (hk : p.Ok) (hl : p.l.length ≤ 1000) (hs : ∀ s ∈ p.l, s.Ok) : Fn Tryz.prog 33 [v, segV s, .int .i64 w] F fun v G => ∃ pv, v = .tuple #[pv, .int .i64 (pushP p s w).2] ∧ isPl (pushP p s w).1 G pv := by
  obtain ⟨a, c, rfl, hc, hF⟩ := hp
  refine Fn.ex fun hex => ?_
  have hP : isPl p F (plV p.first a p.l.length c p.done) := ⟨a, c, rfl, hc, hF⟩
  refine Fn.of_body Tryz.func33 rfl (Nat.le_of_ble_eq_true rfl) (Nat.le_of_ble_eq_true rfl) (by kernel_rfl) ?_
  refine SC.seqN [2, 3, 4, 6] [.l 3, .l 4, .l 6, .l 44, .l 45] fun K1 hK1 => SC.region ?_
  simp -implicitDefEqProofs only [push_cast, ↓reduceIte, Nat.reduceEqDiff, Nat.reduceAdd, Nat.reduceMul, Nat.reduceSub, Nat.reduceLeDiff, Nat.reduceLT, reduceCtorEq, plV, segV, segC]
  refine hK1 _ ?_
  clear hK1
  refine SC.seqM [2, 3, 4, 6] [.l 3, .l 4, .l 6, .l 44, .l 45] fun K2 hK2 hJ2 => ?_
  have key2 : p.done = false → pushC p s = false → ¬ (w < 1 ∨ 100 < w) → K2 ⟨[(2, .v (.int .i64 w)), (3, .own (.l 3) 0), (4, .own (.l 4) 0), (6, .own (.l 6) 0)], [(.l 3, .box [.v (.int .i64 p.first), .v (.slice a p.l.length c), .v (.bool p.done)] 24), (.l 4, .box [.v (.int .i64 s.num), .v (.int .i64 s.beg), .v (.int .i64 s.len), .v (.int .u8 (s.body 0)), .v (.int .u8 (s.body 1)), .v (.int .u8 (s.body 2)), .v (.int .u8 (s.body 3)), .v (.int .u8 (s.body 4)), .v (.int .u8 (s.body 5)), .v (.int .u8 (s.body 6)), .v (.int .u8 (s.body 7)), .v (.int .u8 (s.body 8)), .v (.int .u8 (s.body 9)), .v (.int .u8 (s.body 10)), .v (.int .u8 (s.body 11)), .v (.int .u8 (s.body 12)), .v (.int .u8 (s.body 13)), .v (.int .u8 (s.body 14)), .v (.int .u8 (s.body 15)), .v (.int .i64 s.size)] 57), (.l 6, .box [.v (.int .i64 0), .v (.slice none 0 0), .v (.bool false)] 24)], F⟩ := by
    intro hd hC hw
    refine hK2 _ ?_
    refine SC.seqN [2, 3, 6] [.l 3, .l 6, .l 44, .l 45] fun K3 hK3 => SC.drawnP (.take 0 (.load 1 (.load 3 (.forkE 2 [4] (.fork 4 (.fork 5 (.take 6 (.fork 7 (.done) (.stop))) (.stop)) (.stop)) (.forkE 4 [40] (.fork 2 (.fork 5 (.take 6 (.fork 7 (.done) (.stop))) (.stop)) (.stop)) (.stop)))))) (by kernel_rfl) (by kernel_rfl) (fun _ _ h => h) ?_
    simp -implicitDefEqProofs only [push_cast, ↓reduceIte, Nat.reduceEqDiff, Nat.reduceAdd, Nat.reduceMul, Nat.reduceSub, Nat.reduceLeDiff, Nat.reduceLT, reduceCtorEq]
    suffices key3 : K3 ⟨[(2, .v (.int .i64 w)), (3, .own (.l 3) 0), (6, .own (.l 6) 0)], [(.l 3, .box [.v (.int .i64 p.first), .row (.l 45), .v (.bool p.done)] 24), (.l 6, .box [.v (.int .i64 0), .v (.slice none 0 0), .v (.bool false)] 24), (.l 44, .row 57 20 1 (segC s)), (.l 45, .row 57 20 (p.l.length + 1) (segsC p.l ++ segC s))], F⟩ by
      clear hK3
      cases a with
      | none =>
        have hn := row_nil hF hex rfl
        have key3' : K3 ⟨[(2, .v (.int .i64 w)), (3, .own (.l 3) 0), (6, .own (.l 6) 0)], [(.l 3, .box [.v (.int .i64 p.first), .row (.l 45), .v (.bool p.done)] 24), (.l 6, .box [.v (.int .i64 0), .v (.slice none 0 0), .v (.bool false)] 24), (.l 44, .row 57 20 1 (segC s)), (.l 45, .row 57 20 1 (segC s))], F⟩ := by
          have := key3
          rw [hn] at this
          exact this
        repeat' (first
          | exact key3'
          | exact segC_one s
          | (with_reducible refine callL_fn0 (cloneN_fn F p.l.length c) ?_ (fun _ h => h) ?_
             · rfl
             intro v G hv
             subst hv
             simp -implicitDefEqProofs only [push_cast, ↓reduceIte, Nat.reduceEqDiff, Nat.reduceAdd, Nat.reduceMul, Nat.reduceSub, Nat.reduceLeDiff, Nat.reduceLT, reduceCtorEq])
          | (with_reducible refine And.intro (by omega) ?_)
          | (with_reducible refine And.intro ?_ ?_)
          | intro h
          | exact rfl)
        all_goals (first | omega | (rw [mxl]; omega))
      | some ad =>
        repeat' (first
          | exact key3
          | exact segC_one s
          | (with_reducible refine callL_fnR 42 (cloneR_fn p.l ad p.l.length c rfl F hF (by omega)) ?_ (fun _ h => h) ?_ ?_
             · rfl
             · simp -implicitDefEqProofs only [push_cast, ↓reduceIte, Nat.reduceEqDiff, Nat.reduceAdd, Nat.reduceMul, Nat.reduceSub, Nat.reduceLeDiff, Nat.reduceLT, reduceCtorEq]
             simp -implicitDefEqProofs only [push_cast, ↓reduceIte, Nat.reduceEqDiff, Nat.reduceAdd, Nat.reduceMul, Nat.reduceSub, Nat.reduceLeDiff, Nat.reduceLT, reduceCtorEq])
          | (with_reducible refine And.intro (by omega) ?_)
          | (with_reducible refine And.intro ?_ ?_)
          | intro h
          | exact rfl)
        all_goals (first | omega | (rw [mxl]; omega))
    refine hK3 _ ?_
    clear hK3
    refine SC.frzRow (k := .l 45) rfl (by rw [List.length_append, segsC_length, segC_length]; omega) fun ao b co hco => ?_
    simp -implicitDefEqProofs only [push_cast, ↓reduceIte, Nat.reduceEqDiff, Nat.reduceAdd, Nat.reduceMul, Nat.reduceSub, Nat.reduceLeDiff, Nat.reduceLT, reduceCtorEq]
    refine SC.seqN [6, 7] [.l 6, .l 44, .l 45] fun K4 hK4 => SC.region ?_
    simp -implicitDefEqProofs only [push_cast, ↓reduceIte, Nat.reduceEqDiff, Nat.reduceAdd, Nat.reduceMul, Nat.reduceSub, Nat.reduceLeDiff, Nat.reduceLT, reduceCtorEq]
    have hlo : (p.l ++ [s]).length = p.l.length + 1 := by simp
    refine callL_fn (cut_fn (pushO p s) (plV p.first ao (p.l.length + 1) co p.done) w _ ⟨ao, co, by simp only [pushO, hlo, hd], by simp only [pushO, hlo]; exact hco, by simp only [pushO, segsC_snoc]; exact Fact.to_right (Fact.to_refl _)⟩ (pushO_ok hk hl) ⟨by omega, by omega⟩) rfl (fun _ h => h) ?_
    rintro v G ⟨a2, c2, rfl, hc2, hG⟩
    simp -implicitDefEqProofs only [push_cast, ↓reduceIte, Nat.reduceEqDiff, Nat.reduceAdd, Nat.reduceMul, Nat.reduceSub, Nat.reduceLeDiff, Nat.reduceLT, reduceCtorEq, plV]
    refine hK4 _ ?_
    clear hK4
    refine SC.ret ?_
    simp -implicitDefEqProofs only [push_cast, ↓reduceIte, Nat.reduceEqDiff, Nat.reduceAdd, Nat.reduceMul, Nat.reduceSub, Nat.reduceLeDiff, Nat.reduceLT, reduceCtorEq, Tryz.f33]
    have hm : pushP p s w = ((pushO p s).cut w, 0) := by unfold pushP; rw [if_neg hw, if_neg (by simp [hd]), if_neg (by simp [hC])]
    rw [hm]
    exact ⟨_, rfl, a2, c2, rfl, hc2, Fact.to_right hG⟩
  refine SC.block ?_
  refine SC.seqN [2, 3, 4, 6, 8] [.l 3, .l 4, .l 6, .l 44, .l 45] fun K5 hK5 => SC.region ?_
  simp -implicitDefEqProofs only [push_cast, ↓reduceIte, Nat.reduceEqDiff, Nat.reduceAdd, Nat.reduceMul, Nat.reduceSub, Nat.reduceLeDiff, Nat.reduceLT, reduceCtorEq]
  suffices key5 : ∀ b, b = (decide (w < 1) || decide (100 < w)) → K5 ⟨[(2, .v (.int .i64 w)), (3, .own (.l 3) 0), (4, .own (.l 4) 0), (6, .own (.l 6) 0), (8, .v (.bool b))], [(.l 3, .box [.v (.int .i64 p.first), .v (.slice a p.l.length c), .v (.bool p.done)] 24), (.l 4, .box [.v (.int .i64 s.num), .v (.int .i64 s.beg), .v (.int .i64 s.len), .v (.int .u8 (s.body 0)), .v (.int .u8 (s.body 1)), .v (.int .u8 (s.body 2)), .v (.int .u8 (s.body 3)), .v (.int .u8 (s.body 4)), .v (.int .u8 (s.body 5)), .v (.int .u8 (s.body 6)), .v (.int .u8 (s.body 7)), .v (.int .u8 (s.body 8)), .v (.int .u8 (s.body 9)), .v (.int .u8 (s.body 10)), .v (.int .u8 (s.body 11)), .v (.int .u8 (s.body 12)), .v (.int .u8 (s.body 13)), .v (.int .u8 (s.body 14)), .v (.int .u8 (s.body 15)), .v (.int .i64 s.size)] 57), (.l 6, .box [.v (.int .i64 0), .v (.slice none 0 0), .v (.bool false)] 24)], F⟩ by
    clear hK2 hK5
    refine ⟨fun h => ?_, fun h => ?_⟩
    all_goals exact key5 _ (by simp [*])
  intro b hb
  subst hb
  refine hK5 _ ?_
  clear hK5
  refine SC.cond ?_
  simp -implicitDefEqProofs only [push_cast, ↓reduceIte, Nat.reduceEqDiff, Nat.reduceAdd, Nat.reduceMul, Nat.reduceSub, Nat.reduceLeDiff, Nat.reduceLT, reduceCtorEq]
  refine ⟨fun h1 => ?_, fun h1 => ?_⟩
  · skip
    refine SC.seqN [6, 7] [.l 6, .l 44, .l 45] fun K6 hK6 => SC.region ?_
    simp -implicitDefEqProofs only [push_cast, ↓reduceIte, Nat.reduceEqDiff, Nat.reduceAdd, Nat.reduceMul, Nat.reduceSub, Nat.reduceLeDiff, Nat.reduceLT, reduceCtorEq]
    refine hK6 _ ?_
    clear hK6
    refine SC.ret ?_
    simp -implicitDefEqProofs only [push_cast, ↓reduceIte, Nat.reduceEqDiff, Nat.reduceAdd, Nat.reduceMul, Nat.reduceSub, Nat.reduceLeDiff, Nat.reduceLT, reduceCtorEq, Tryz.f33]
    have hm : pushP p s w = (pl0, 1) := if_pos (by simpa using h1)
    rw [hm]
    exact ⟨_, rfl, isPl0 _⟩
  · skip
    have hw : ¬ (w < 1 ∨ 100 < w) := by simpa using h1
    refine SC.seqN [2, 3, 4, 6, 16] [.l 3, .l 4, .l 6, .l 44, .l 45] fun K7 hK7 => SC.region ?_
    simp -implicitDefEqProofs only [push_cast, ↓reduceIte, Nat.reduceEqDiff, Nat.reduceAdd, Nat.reduceMul, Nat.reduceSub, Nat.reduceLeDiff, Nat.reduceLT, reduceCtorEq]
    refine hK7 _ ?_
    clear hK7
    refine SC.cond ?_
    simp -implicitDefEqProofs only [push_cast, ↓reduceIte, Nat.reduceEqDiff, Nat.reduceAdd, Nat.reduceMul, Nat.reduceSub, Nat.reduceLeDiff, Nat.reduceLT, reduceCtorEq]
    refine ⟨fun h2 => ?_, fun h2 => ?_⟩
    · skip
      refine SC.seqN [6, 7] [.l 6, .l 44, .l 45] fun K8 hK8 => SC.region ?_
      simp -implicitDefEqProofs only [push_cast, ↓reduceIte, Nat.reduceEqDiff, Nat.reduceAdd, Nat.reduceMul, Nat.reduceSub, Nat.reduceLeDiff, Nat.reduceLT, reduceCtorEq]
      refine hK8 _ ?_
      clear hK8
      refine SC.ret ?_
      simp -implicitDefEqProofs only [push_cast, ↓reduceIte, Nat.reduceEqDiff, Nat.reduceAdd, Nat.reduceMul, Nat.reduceSub, Nat.reduceLeDiff, Nat.reduceLT, reduceCtorEq, Tryz.f33]
      have hm : pushP p s w = (pl0, 4) := by unfold pushP; rw [if_neg hw, if_pos h2]
      rw [hm]
      exact ⟨_, rfl, isPl0 _⟩
    · skip
      refine SC.seqN [2, 3, 4, 6, 20] [.l 3, .l 4, .l 6, .l 44, .l 45] fun K9 hK9 => SC.drawnP (.take 0 (.load 1 (.load 2 (.forkE 3 [21] (.take 4 (.take 5 (.take 6 (.load 7 (.take 8 (.take 9 (.take 10 (.take 11 (.load 12 (.load 13 (.forkE 14 [21, 27, 32] (.take 15 (.take 16 (.take 17 (.take 18 (.done))))) (.stop)))))))))))) (.stop))))) (by kernel_rfl) (by kernel_rfl) (fun _ _ h => h) ?_
      simp -implicitDefEqProofs only [push_cast, ↓reduceIte, Nat.reduceEqDiff, Nat.reduceAdd, Nat.reduceMul, Nat.reduceSub, Nat.reduceLeDiff, Nat.reduceLT, reduceCtorEq]
      suffices key9 : ∀ b, b = pushC p s → K9 ⟨[(2, .v (.int .i64 w)), (3, .own (.l 3) 0), (4, .own (.l 4) 0), (6, .own (.l 6) 0), (20, .v (.bool b))], [(.l 3, .box [.v (.int .i64 p.first), .v (.slice a p.l.length c), .v (.bool p.done)] 24), (.l 4, .box [.v (.int .i64 s.num), .v (.int .i64 s.beg), .v (.int .i64 s.len), .v (.int .u8 (s.body 0)), .v (.int .u8 (s.body 1)), .v (.int .u8 (s.body 2)), .v (.int .u8 (s.body 3)), .v (.int .u8 (s.body 4)), .v (.int .u8 (s.body 5)), .v (.int .u8 (s.body 6)), .v (.int .u8 (s.body 7)), .v (.int .u8 (s.body 8)), .v (.int .u8 (s.body 9)), .v (.int .u8 (s.body 10)), .v (.int .u8 (s.body 11)), .v (.int .u8 (s.body 12)), .v (.int .u8 (s.body 13)), .v (.int .u8 (s.body 14)), .v (.int .u8 (s.body 15)), .v (.int .i64 s.size)] 57), (.l 6, .box [.v (.int .i64 0), .v (.slice none 0 0), .v (.bool false)] 24)], F⟩ by
        clear hK2 hK9
        repeat' (first
          | (with_reducible refine callL_fn0 (next_fn p _ F hP hk) ?_ (fun _ h => h) ?_
             · rfl
             intro v G hv
             subst hv
             simp -implicitDefEqProofs only [push_cast, ↓reduceIte, Nat.reduceEqDiff, Nat.reduceAdd, Nat.reduceMul, Nat.reduceSub, Nat.reduceLeDiff, Nat.reduceLT, reduceCtorEq])
          | (with_reducible refine callL_fn0 (edge_fn p _ F hP hk hs) ?_ (fun _ h => h) ?_
             · rfl
             intro v G hv
             subst hv
             simp -implicitDefEqProofs only [push_cast, ↓reduceIte, Nat.reduceEqDiff, Nat.reduceAdd, Nat.reduceMul, Nat.reduceSub, Nat.reduceLeDiff, Nat.reduceLT, reduceCtorEq])
          | (with_reducible refine And.intro (by omega) ?_)
          | (with_reducible refine And.intro ?_ ?_)
          | intro h
          | exact rfl)
        all_goals (refine key9 _ ?_; clear key9 key2; rw [Bool.eq_iff_iff]; simp only [pushC, Bool.or_eq_true, Bool.and_eq_true, decide_eq_true_eq, Bool.false_eq_true, false_iff, true_iff]; omega)
      intro b hb
      subst hb
      refine hK9 _ ?_
      clear hK9
      refine SC.cond ?_
      simp -implicitDefEqProofs only [push_cast, ↓reduceIte, Nat.reduceEqDiff, Nat.reduceAdd, Nat.reduceMul, Nat.reduceSub, Nat.reduceLeDiff, Nat.reduceLT, reduceCtorEq]
      refine ⟨fun h3 => ?_, fun h3 => ?_⟩
      · skip
        refine SC.seqN [6, 7] [.l 6, .l 44, .l 45] fun K10 hK10 => SC.region ?_
        simp -implicitDefEqProofs only [push_cast, ↓reduceIte, Nat.reduceEqDiff, Nat.reduceAdd, Nat.reduceMul, Nat.reduceSub, Nat.reduceLeDiff, Nat.reduceLT, reduceCtorEq]
        refine hK10 _ ?_
        clear hK10
        refine SC.ret ?_
        simp -implicitDefEqProofs only [push_cast, ↓reduceIte, Nat.reduceEqDiff, Nat.reduceAdd, Nat.reduceMul, Nat.reduceSub, Nat.reduceLeDiff, Nat.reduceLT, reduceCtorEq, Tryz.f33]
        have hm : pushP p s w = (pl0, 3) := by unfold pushP; rw [if_neg hw, if_neg (by simp [h2]), if_pos h3]
        rw [hm]
        exact ⟨_, rfl, isPl0 _⟩
      · skip
        refine SC.skip ?_
        simp -implicitDefEqProofs only [push_cast, ↓reduceIte, Nat.reduceEqDiff, Nat.reduceAdd, Nat.reduceMul, Nat.reduceSub, Nat.reduceLeDiff, Nat.reduceLT, reduceCtorEq]
        exact key2 (by simpa using h2) (by simpa using h3) hw
def refPushP (p : Pl) (s : Seg) (w : Int) : Pl × Int := if w < 1 ∨ 100 < w then (pl0, 1) else if p.done then (pl0, 4) else if pushC p s then (pl0, 3) else (refCut (pushO p s) w, 0)
theorem refPush_fn (p : Pl) (v : Value) (s : Seg) (w : Int) (F : Fact) (hp : isPl p F v) (hk : p.Ok) (hl : p.l.length ≤ 1000) (hs : ∀ s ∈ p.l, s.Ok) : Fn Tryz.prog 34 [v, segV s, .int .i64 w] F fun v G => isMade (refPushP p s w).1 (refPushP p s w).2 G v := by
  obtain ⟨a, c, rfl, hc, hF⟩ := hp
  have hP : isPl p F (plV p.first a p.l.length c p.done) := ⟨a, c, rfl, hc, hF⟩
  refine Fn.of_body Tryz.func34 rfl (Nat.le_of_ble_eq_true rfl) (Nat.le_of_ble_eq_true rfl) (by kernel_rfl) ?_
  refine SC.seqN [2, 3, 4, 6] [.l 3, .l 4, .l 6, .l 36, .l 39, .l 41, .l 42] fun K1 hK1 => SC.region ?_
  simp -implicitDefEqProofs only [push_cast, ↓reduceIte, Nat.reduceEqDiff, Nat.reduceAdd, Nat.reduceMul, Nat.reduceSub, Nat.reduceLeDiff, Nat.reduceLT, reduceCtorEq, plV, segV, segC]
  refine hK1 _ ?_
  clear hK1
  refine SC.seqN [2, 3, 4, 6] [.l 3, .l 4, .l 6, .l 36, .l 39, .l 41, .l 42] fun K2 hK2 => ?_
  refine SC.seqN [2, 3, 4, 6, 10] [.l 3, .l 4, .l 6, .l 36, .l 39, .l 41, .l 42] fun K3 hK3 => SC.region ?_
  simp -implicitDefEqProofs only [push_cast, ↓reduceIte, Nat.reduceEqDiff, Nat.reduceAdd, Nat.reduceMul, Nat.reduceSub, Nat.reduceLeDiff, Nat.reduceLT, reduceCtorEq]
  refine callL_fn0 (wide_fn w F) rfl (fun _ h => h) fun v G hv => ?_
  subst hv
  simp -implicitDefEqProofs only [push_cast, ↓reduceIte, Nat.reduceEqDiff, Nat.reduceAdd, Nat.reduceMul, Nat.reduceSub, Nat.reduceLeDiff, Nat.reduceLT, reduceCtorEq]
  refine hK3 _ ?_
  clear hK3
  refine SC.cond ?_
  simp -implicitDefEqProofs only [push_cast, ↓reduceIte, Nat.reduceEqDiff, Nat.reduceAdd, Nat.reduceMul, Nat.reduceSub, Nat.reduceLeDiff, Nat.reduceLT, reduceCtorEq]
  refine ⟨fun h1 => ?_, fun h1 => ?_⟩
  · skip
    refine SC.seqN [6] [.l 6, .l 36, .l 39, .l 41, .l 42] fun K4 hK4 => SC.region ?_
    simp -implicitDefEqProofs only [push_cast, ↓reduceIte, Nat.reduceEqDiff, Nat.reduceAdd, Nat.reduceMul, Nat.reduceSub, Nat.reduceLeDiff, Nat.reduceLT, reduceCtorEq]
    refine hK4 _ ?_
    clear hK4
    refine SC.ret ?_
    simp -implicitDefEqProofs only [push_cast, ↓reduceIte, Nat.reduceEqDiff, Nat.reduceAdd, Nat.reduceMul, Nat.reduceSub, Nat.reduceLeDiff, Nat.reduceLT, reduceCtorEq, Tryz.f34]
    have hm : refPushP p s w = (pl0, 1) := if_pos (by simp [wideB] at h1; omega)
    rw [hm]
    exact isMade0 _ _
  · skip
    have hw : ¬ (w < 1 ∨ 100 < w) := by simp [wideB] at h1; omega
    refine SC.skip ?_
    simp -implicitDefEqProofs only [push_cast, ↓reduceIte, Nat.reduceEqDiff, Nat.reduceAdd, Nat.reduceMul, Nat.reduceSub, Nat.reduceLeDiff, Nat.reduceLT, reduceCtorEq]
    refine hK2 _ ?_
    clear hK2
    refine SC.seqN [2, 3, 4, 6] [.l 3, .l 4, .l 6, .l 36, .l 39, .l 41, .l 42] fun K5 hK5 => ?_
    refine SC.seqN [2, 3, 4, 6, 13] [.l 3, .l 4, .l 6, .l 36, .l 39, .l 41, .l 42] fun K6 hK6 => SC.region ?_
    simp -implicitDefEqProofs only [push_cast, ↓reduceIte, Nat.reduceEqDiff, Nat.reduceAdd, Nat.reduceMul, Nat.reduceSub, Nat.reduceLeDiff, Nat.reduceLT, reduceCtorEq]
    refine hK6 _ ?_
    clear hK6
    refine SC.cond ?_
    simp -implicitDefEqProofs only [push_cast, ↓reduceIte, Nat.reduceEqDiff, Nat.reduceAdd, Nat.reduceMul, Nat.reduceSub, Nat.reduceLeDiff, Nat.reduceLT, reduceCtorEq]
    refine ⟨fun h2 => ?_, fun h2 => ?_⟩
    · skip
      refine SC.seqN [6] [.l 6, .l 36, .l 39, .l 41, .l 42] fun K7 hK7 => SC.region ?_
      simp -implicitDefEqProofs only [push_cast, ↓reduceIte, Nat.reduceEqDiff, Nat.reduceAdd, Nat.reduceMul, Nat.reduceSub, Nat.reduceLeDiff, Nat.reduceLT, reduceCtorEq]
      refine hK7 _ ?_
      clear hK7
      refine SC.ret ?_
      simp -implicitDefEqProofs only [push_cast, ↓reduceIte, Nat.reduceEqDiff, Nat.reduceAdd, Nat.reduceMul, Nat.reduceSub, Nat.reduceLeDiff, Nat.reduceLT, reduceCtorEq, Tryz.f34]
      have hm : refPushP p s w = (pl0, 4) := by unfold refPushP; rw [if_neg hw, if_pos h2]
      rw [hm]
      exact isMade0 _ _
    · skip
      refine SC.skip ?_
      simp -implicitDefEqProofs only [push_cast, ↓reduceIte, Nat.reduceEqDiff, Nat.reduceAdd, Nat.reduceMul, Nat.reduceSub, Nat.reduceLeDiff, Nat.reduceLT, reduceCtorEq]
      refine hK5 _ ?_
      clear hK5
      refine SC.seqN [2, 3, 4, 6] [.l 3, .l 4, .l 6, .l 36, .l 39, .l 41, .l 42] fun K8 hK8 => ?_
      refine SC.seqN [2, 3, 4, 6, 32] [.l 3, .l 4, .l 6, .l 36, .l 39, .l 41, .l 42] fun K9 hK9 => SC.drawnP (.take 0 (.load 1 (.load 2 (.forkE 3 [15] (.take 4 (.take 5 (.take 6 (.load 7 (.take 8 (.take 9 (.take 10 (.take 11 (.load 12 (.load 13 (.forkE 14 [15, 21, 26] (.take 15 (.take 16 (.take 17 (.done)))) (.stop)))))))))))) (.stop))))) (by kernel_rfl) (by kernel_rfl) (fun _ _ h => h) ?_
      simp -implicitDefEqProofs only [push_cast, ↓reduceIte, Nat.reduceEqDiff, Nat.reduceAdd, Nat.reduceMul, Nat.reduceSub, Nat.reduceLeDiff, Nat.reduceLT, reduceCtorEq]
      suffices key9 : ∀ b, b = pushC p s → K9 ⟨[(2, .v (.int .i64 w)), (3, .own (.l 3) 0), (4, .own (.l 4) 0), (6, .own (.l 6) 0), (32, .v (.bool b))], [(.l 3, .box [.v (.int .i64 p.first), .v (.slice a p.l.length c), .v (.bool p.done)] 24), (.l 4, .box [.v (.int .i64 s.num), .v (.int .i64 s.beg), .v (.int .i64 s.len), .v (.int .u8 (s.body 0)), .v (.int .u8 (s.body 1)), .v (.int .u8 (s.body 2)), .v (.int .u8 (s.body 3)), .v (.int .u8 (s.body 4)), .v (.int .u8 (s.body 5)), .v (.int .u8 (s.body 6)), .v (.int .u8 (s.body 7)), .v (.int .u8 (s.body 8)), .v (.int .u8 (s.body 9)), .v (.int .u8 (s.body 10)), .v (.int .u8 (s.body 11)), .v (.int .u8 (s.body 12)), .v (.int .u8 (s.body 13)), .v (.int .u8 (s.body 14)), .v (.int .u8 (s.body 15)), .v (.int .i64 s.size)] 57), (.l 6, .box [.v (.int .i64 0), .v (.slice none 0 0), .v (.bool false), .v (.int .i64 0)] 31)], F⟩ by
        clear hK8 hK9
        repeat' (first
          | (with_reducible refine callL_fn0 (refNext_fn p _ F hP hk) ?_ (fun _ h => h) ?_
             · rfl
             intro v G hv
             subst hv
             simp -implicitDefEqProofs only [push_cast, ↓reduceIte, Nat.reduceEqDiff, Nat.reduceAdd, Nat.reduceMul, Nat.reduceSub, Nat.reduceLeDiff, Nat.reduceLT, reduceCtorEq])
          | (with_reducible refine callL_fn0 (refEdge_fn p _ F hP hk hs) ?_ (fun _ h => h) ?_
             · rfl
             intro v G hv
             subst hv
             simp -implicitDefEqProofs only [push_cast, ↓reduceIte, Nat.reduceEqDiff, Nat.reduceAdd, Nat.reduceMul, Nat.reduceSub, Nat.reduceLeDiff, Nat.reduceLT, reduceCtorEq])
          | (with_reducible refine And.intro (by omega) ?_)
          | (with_reducible refine And.intro ?_ ?_)
          | intro h
          | exact rfl)
        all_goals (refine key9 _ ?_; clear key9; rw [Bool.eq_iff_iff]; simp only [pushC, Bool.or_eq_true, Bool.and_eq_true, decide_eq_true_eq, Bool.false_eq_true, false_iff, true_iff]; omega)
      intro b hb
      subst hb
      refine hK9 _ ?_
      clear hK9
      refine SC.cond ?_
      simp -implicitDefEqProofs only [push_cast, ↓reduceIte, Nat.reduceEqDiff, Nat.reduceAdd, Nat.reduceMul, Nat.reduceSub, Nat.reduceLeDiff, Nat.reduceLT, reduceCtorEq]
      refine ⟨fun h3 => ?_, fun h3 => ?_⟩
      · skip
        refine SC.seqN [6] [.l 6, .l 36, .l 39, .l 41, .l 42] fun K10 hK10 => SC.region ?_
        simp -implicitDefEqProofs only [push_cast, ↓reduceIte, Nat.reduceEqDiff, Nat.reduceAdd, Nat.reduceMul, Nat.reduceSub, Nat.reduceLeDiff, Nat.reduceLT, reduceCtorEq]
        refine hK10 _ ?_
        clear hK10
        refine SC.ret ?_
        simp -implicitDefEqProofs only [push_cast, ↓reduceIte, Nat.reduceEqDiff, Nat.reduceAdd, Nat.reduceMul, Nat.reduceSub, Nat.reduceLeDiff, Nat.reduceLT, reduceCtorEq, Tryz.f34]
        have hm : refPushP p s w = (pl0, 3) := by unfold refPushP; rw [if_neg hw, if_neg (by simp [h2]), if_pos h3]
        rw [hm]
        exact isMade0 _ _
      · skip
        refine SC.skip ?_
        simp -implicitDefEqProofs only [push_cast, ↓reduceIte, Nat.reduceEqDiff, Nat.reduceAdd, Nat.reduceMul, Nat.reduceSub, Nat.reduceLeDiff, Nat.reduceLT, reduceCtorEq]
        refine hK8 _ ?_
        clear hK8
        refine SC.seqN [2, 6, 7] [.l 6, .l 36, .l 39, .l 41, .l 42, .l 7] fun K11 hK11 => SC.drawnP (.take 0 (.take 3 (.load 1 (.load 4 (.load 6 (.forkE 2 [4, 34, 37] (.forkE 5 [4, 34] (.forkE 7 [34] (.forkE 8 [34] (.take 9 (.forkE 10 [34] (.fork 11 (.done) (.stop)) (.stop))) (.forkE 10 [34] (.forkE 8 [34] (.take 9 (.fork 11 (.done) (.stop))) (.stop)) (.stop))) (.forkE 10 [4, 34] (.forkE 7 [34] (.forkE 8 [34] (.take 9 (.fork 11 (.done) (.stop))) (.stop)) (.stop)) (.stop))) (.forkE 7 [34, 37] (.forkE 5 [34] (.forkE 8 [34] (.take 9 (.forkE 10 [34] (.fork 11 (.done) (.stop)) (.stop))) (.forkE 10 [34] (.forkE 8 [34] (.take 9 (.fork 11 (.done) (.stop))) (.stop)) (.stop))) (.forkE 10 [34, 37] (.forkE 5 [34] (.forkE 8 [34] (.take 9 (.fork 11 (.done) (.stop))) (.stop)) (.stop)) (.stop))) (.forkE 10 [4, 34, 37] (.forkE 5 [4, 34] (.forkE 7 [34] (.forkE 8 [34] (.take 9 (.fork 11 (.done) (.stop))) (.stop)) (.stop)) (.forkE 7 [34, 37] (.forkE 5 [34] (.forkE 8 [34] (.take 9 (.fork 11 (.done) (.stop))) (.stop)) (.stop)) (.stop))) (.stop)))) (.forkE 7 [34, 37] (.forkE 2 [34, 37] (.forkE 5 [34] (.forkE 8 [34] (.take 9 (.forkE 10 [34] (.fork 11 (.done) (.stop)) (.stop))) (.forkE 10 [34] (.forkE 8 [34] (.take 9 (.fork 11 (.done) (.stop))) (.stop)) (.stop))) (.forkE 10 [34, 37] (.forkE 5 [34] (.forkE 8 [34] (.take 9 (.fork 11 (.done) (.stop))) (.stop)) (.stop)) (.stop))) (.forkE 10 [34, 37] (.forkE 2 [34, 37] (.forkE 5 [34] (.forkE 8 [34] (.take 9 (.fork 11 (.done) (.stop))) (.stop)) (.stop)) (.stop)) (.stop))) (.forkE 10 [4, 34, 37] (.forkE 2 [4, 34, 37] (.forkE 5 [4, 34] (.forkE 7 [34] (.forkE 8 [34] (.take 9 (.fork 11 (.done) (.stop))) (.stop)) (.stop)) (.forkE 7 [34, 37] (.forkE 5 [34] (.forkE 8 [34] (.take 9 (.fork 11 (.done) (.stop))) (.stop)) (.stop)) (.stop))) (.forkE 7 [34, 37] (.forkE 2 [34, 37] (.forkE 5 [34] (.forkE 8 [34] (.take 9 (.fork 11 (.done) (.stop))) (.stop)) (.stop)) (.stop)) (.stop))) (.stop))))))))) (by kernel_rfl) (by kernel_rfl) (fun _ _ h => h) ?_
        simp -implicitDefEqProofs only [push_cast, ↓reduceIte, Nat.reduceEqDiff, Nat.reduceAdd, Nat.reduceMul, Nat.reduceSub, Nat.reduceLeDiff, Nat.reduceLT, reduceCtorEq]
        suffices key11 : K11 ⟨[(2, .v (.int .i64 w)), (6, .own (.l 6) 0), (7, .own (.l 7) 0)], [(.l 6, .box [.v (.int .i64 0), .v (.slice none 0 0), .v (.bool false), .v (.int .i64 0)] 31), (.l 41, .row 57 20 1 (segC s)), (.l 42, .row 57 20 (p.l.length + 1) (segsC p.l ++ segC s)), (.l 7, .box [.v (.int .i64 p.first), .row (.l 42), .v (.bool false)] 24)], F⟩ by
          clear hK11
          repeat' (first
            | exact key11
            | exact segC_one s
            | (refine apF_segs p.l hF rfl rfl ⟨by rw [mxl]; omega, by simp only []; omega⟩ ?_
               simp -implicitDefEqProofs only [push_cast, ↓reduceIte, Nat.reduceEqDiff, Nat.reduceAdd, Nat.reduceMul, Nat.reduceSub, Nat.reduceLeDiff, Nat.reduceLT, reduceCtorEq])
            | (with_reducible refine And.intro (by omega) ?_)
            | (with_reducible refine And.intro ?_ ?_)
            | intro h
            | exact rfl)
          all_goals (first | omega | (rw [mxl]; omega))
        refine hK11 _ ?_
        clear hK11
        refine SC.frzRow (k := .l 42) rfl (by rw [List.length_append, segsC_length, segC_length]; omega) fun ao b co hco => ?_
        simp -implicitDefEqProofs only [push_cast, ↓reduceIte, Nat.reduceEqDiff, Nat.reduceAdd, Nat.reduceMul, Nat.reduceSub, Nat.reduceLeDiff, Nat.reduceLT, reduceCtorEq]
        refine SC.seqN [6] [.l 6, .l 36, .l 39, .l 41, .l 42] fun K12 hK12 => SC.region ?_
        simp -implicitDefEqProofs only [push_cast, ↓reduceIte, Nat.reduceEqDiff, Nat.reduceAdd, Nat.reduceMul, Nat.reduceSub, Nat.reduceLeDiff, Nat.reduceLT, reduceCtorEq]
        have hlo : (p.l ++ [s]).length = p.l.length + 1 := by simp
        refine callL_fn (refCut_fn (pushO p s) (plV p.first ao (p.l.length + 1) co false) w _ ⟨ao, co, by simp only [pushO, hlo], by simp only [pushO, hlo]; exact hco, by simp only [pushO, segsC_snoc]; exact Fact.to_right (Fact.to_refl _)⟩ (pushO_ok hk hl) ⟨by omega, by omega⟩) rfl (fun _ h => h) ?_
        rintro v G ⟨a2, c2, rfl, hc2, hG⟩
        simp -implicitDefEqProofs only [push_cast, ↓reduceIte, Nat.reduceEqDiff, Nat.reduceAdd, Nat.reduceMul, Nat.reduceSub, Nat.reduceLeDiff, Nat.reduceLT, reduceCtorEq, plV]
        refine hK12 _ ?_
        clear hK12
        refine SC.ret ?_
        simp -implicitDefEqProofs only [push_cast, ↓reduceIte, Nat.reduceEqDiff, Nat.reduceAdd, Nat.reduceMul, Nat.reduceSub, Nat.reduceLeDiff, Nat.reduceLT, reduceCtorEq, Tryz.f34]
        have hm : refPushP p s w = (refCut (pushO p s) w, 0) := by unfold refPushP; rw [if_neg hw, if_neg (by simpa using h2), if_neg (by simpa using h3)]
        rw [hm]
        exact ⟨a2, c2, rfl, hc2, Fact.to_right hG⟩
end Go.Proofs.YtmamodnpghlgcaaGreatDoor
/- Seen, the specification's Seen; the law's segments. -/

set_option linter.unusedSimpArgs false
set_option linter.unusedVariables false
set_option maxRecDepth 100000
set_option maxHeartbeats 4000000
namespace Go.Proofs.YtmamodnpghlgcaaGreatDoor
open Go.RowKit
def seenF (l : List Seg) : Int := match l[0]? with | some s => s.num | none => 0
def seenN (l : List Seg) (arr : List Int) (t : Int) : Nat := match arr.findIdx? (fun x => decide (t < x)) with | some i => i | none => l.length
def seenO (l : List Seg) (arr : List Int) (t : Int) : Pl := ⟨seenF l, l.take (seenN l arr t), false⟩
theorem seenN_le {l : List Seg} {arr : List Int} (h : arr.length ≤ l.length) (t : Int) : seenN l arr t ≤ l.length := by
  unfold seenN
  cases hf : arr.findIdx? (fun x => decide (t < x)) with
  | none => exact Nat.le_refl _
  | some i => obtain ⟨h1, _⟩ := List.findIdx?_eq_some_iff_getElem.1 hf; simp only; omega
theorem seenN_eq {l : List Seg} {arr : List Int} {t : Int} {i : Nat} (h : arr.length = l.length) (hi : i ≤ l.length) (hb : ∀ j x, j < i → arr[j]? = some x → x ≤ t) (he : i = l.length ∨ ∃ x, arr[i]? = some x ∧ t < x) : seenN l arr t = i := by
  unfold seenN
  rcases he with rfl | ⟨x, hx, hlt⟩
  · have : arr.findIdx? (fun x => decide (t < x)) = none := by
      rw [List.findIdx?_eq_none_iff]
      intro x hx
      obtain ⟨j, hj⟩ := List.getElem?_of_mem hx
      have h1 := (List.getElem?_eq_some_iff.1 hj).1
      have := hb j x (by omega) hj
      simp; omega
    rw [this]
  · obtain ⟨hi2, hx2⟩ := List.getElem?_eq_some_iff.1 hx
    have : arr.findIdx? (fun x => decide (t < x)) = some i := by
      rw [List.findIdx?_eq_some_iff_getElem]
      refine ⟨hi2, by rw [hx2]; simpa using hlt, fun j hj => ?_⟩
      have := hb j arr[j] hj (List.getElem?_eq_getElem (by omega))
      simp; omega
    rw [this]
theorem seenO_ok {l : List Seg} {arr : List Int} (h : arr.length ≤ l.length) (t : Int) (hl : l.length ≤ 1000) (hs : ∀ s ∈ l, s.Ok) : (seenO l arr t).Ok := by
  have hf : -1152921504606846976 ≤ seenF l ∧ seenF l ≤ 1152921504606846976 := by
    unfold seenF
    cases hg : l[0]? with
    | none => simp
    | some s =>
      have := hs s (List.mem_of_getElem? hg)
      unfold Seg.Ok at this
      simp only; omega
  refine ⟨?_, hf.1, hf.2⟩
  simp only [seenO, List.length_take]
  omega
theorem seenO_len {l : List Seg} {arr : List Int} (h : arr.length ≤ l.length) (t : Int) : (seenO l arr t).l.length = seenN l arr t := by
  have := seenN_le h t
  simp only [seenO, List.length_take]; omega
theorem seen_fn (l : List Seg) (arr : List Int) (a a' : Option Addr) (c c' : Nat) (t w : Int) (F : Fact) (hF : F.to (rowF a (segsC l))) (hF' : F.to (rowF a' (ints arr))) (hc : l.length ≤ c) (hl : l.length ≤ 1000) (hla : arr.length ≤ l.length) (hs : ∀ s ∈ l, s.Ok) (hw : 0 ≤ w ∧ w ≤ 1000000) :
    Fn Tryz.prog 20 [.slice a l.length c, .slice a' arr.length c', .int .i64 t, .int .i64 w] F fun v G => isPl ((seenO l arr t).cut w) G v := by
  have hsl := seenO_len hla t
  have hsn := seenN_le hla t
  refine Fn.of_body Tryz.func20 rfl (Nat.le_of_ble_eq_true rfl) (Nat.le_of_ble_eq_true rfl) (by kernel_rfl) ?_
  refine SC.seqN [0, 1, 3, 6, 8] [.l 6, .l 8] fun K1 hK1 => SC.region ?_
  simp -implicitDefEqProofs only [push_cast, ↓reduceIte, Nat.reduceEqDiff, Nat.reduceAdd, Nat.reduceMul, Nat.reduceSub, Nat.reduceLeDiff, Nat.reduceLT, reduceCtorEq]
  refine hK1 _ ?_
  clear hK1
  refine SC.frzB (k := .l 6) rfl rfl fun bk r => ?_
  simp -implicitDefEqProofs only [push_cast, ↓reduceIte, Nat.reduceEqDiff, Nat.reduceAdd, Nat.reduceMul, Nat.reduceSub, Nat.reduceLeDiff, Nat.reduceLT, reduceCtorEq]
  obtain ⟨F1, hF1⟩ : ∃ F1, F1 = F.and (cellsF bk 0 [.int .i64 t]) := ⟨_, rfl⟩
  have hto : F1.to F := by rw [hF1]; exact Fact.to_left (Fact.to_refl _)
  have hbk : F1.to (cellsF bk 0 [.int .i64 t]) := by rw [hF1]; exact Fact.to_right (Fact.to_refl _)
  rw [← hF1]
  refine SC.seqN [0, 3, 8, 9] [.l 6, .l 8] fun K2 hK2 => SC.region ?_
  simp -implicitDefEqProofs only [push_cast, ↓reduceIte, Nat.reduceEqDiff, Nat.reduceAdd, Nat.reduceMul, Nat.reduceSub, Nat.reduceLeDiff, Nat.reduceLT, reduceCtorEq]
  refine callL_fn0 (indexInt_fn arr a' c' _ #[.pointer (some ⟨bk, 0, none⟩)] (fun x => decide (t < x)) _ (Fact.to_trans hto hF') (by omega) (by kernel_rfl) fun s hm => seen1_fn s t bk _ hbk) rfl (fun _ h => h) fun v G hv => ?_
  subst hv
  simp -implicitDefEqProofs only [push_cast, ↓reduceIte, Nat.reduceEqDiff, Nat.reduceAdd, Nat.reduceMul, Nat.reduceSub, Nat.reduceLeDiff, Nat.reduceLT, reduceCtorEq]
  refine hK2 _ ?_
  clear hK2
  refine SC.seqM [0, 3, 8, 9] [.l 6, .l 8] fun K3 hK3 hJ3 => ?_
  have key3 : K3 ⟨[(0, .v (.slice a l.length c)), (3, .v (.int .i64 w)), (8, .own (.l 8) 0), (9, .v (.int .i64 (seenN l arr t)))], [(.l 8, .box [.v (.int .i64 0), .v (.slice none 0 0), .v (.bool false)] 24)], F1⟩ := by
    refine hK3 _ ?_
    refine SC.seqN [0, 3, 8, 9, 10] [.l 6, .l 8, .l 10] fun K4 hK4 => SC.region ?_
    simp -implicitDefEqProofs only [push_cast, ↓reduceIte, Nat.reduceEqDiff, Nat.reduceAdd, Nat.reduceMul, Nat.reduceSub, Nat.reduceLeDiff, Nat.reduceLT, reduceCtorEq]
    refine hK4 _ ?_
    clear hK4
    refine SC.seqM [3, 8, 10] [.l 6, .l 8, .l 10] fun K5 hK5 hJ5 => ?_
    have key5 : ∀ (ao : Option Addr) (co : Nat) (F' : Fact), seenN l arr t ≤ co → F'.to (rowF ao (segsC (seenO l arr t).l)) → K5 ⟨[(3, .v (.int .i64 w)), (8, .own (.l 8) 0), (10, .own (.l 10) 0)], [(.l 8, .box [.v (.int .i64 0), .v (.slice none 0 0), .v (.bool false)] 24), (.l 10, .box [.v (.int .i64 (seenF l)), .v (.slice ao (seenN l arr t) co), .v (.bool false)] 24)], F'⟩ := by
      intro ao co F' hco hrow
      refine hK5 _ ?_
      refine SC.seqN [8] [.l 6, .l 8] fun K6 hK6 => SC.region ?_
      simp -implicitDefEqProofs only [push_cast, ↓reduceIte, Nat.reduceEqDiff, Nat.reduceAdd, Nat.reduceMul, Nat.reduceSub, Nat.reduceLeDiff, Nat.reduceLT, reduceCtorEq]
      refine callL_fn (cut_fn (seenO l arr t) (plV (seenF l) ao (seenN l arr t) co false) w F' ⟨ao, co, by rw [hsl]; rfl, by rw [hsl]; exact hco, hrow⟩ (seenO_ok hla t hl hs) hw) rfl (fun _ h => h) ?_
      rintro v G ⟨a2, c2, rfl, hc2, hG⟩
      simp -implicitDefEqProofs only [push_cast, ↓reduceIte, Nat.reduceEqDiff, Nat.reduceAdd, Nat.reduceMul, Nat.reduceSub, Nat.reduceLeDiff, Nat.reduceLT, reduceCtorEq, plV]
      refine hK6 _ ?_
      clear hK6
      refine SC.ret ?_
      simp -implicitDefEqProofs only [push_cast, ↓reduceIte, Nat.reduceEqDiff, Nat.reduceAdd, Nat.reduceMul, Nat.reduceSub, Nat.reduceLeDiff, Nat.reduceLT, reduceCtorEq, Tryz.f20]
      exact ⟨a2, c2, rfl, hc2, Fact.to_right hG⟩
    refine SC.seqN [0, 3, 8, 9, 10, 20] [.l 6, .l 8, .l 10] fun K7 hK7 => SC.region ?_
    simp -implicitDefEqProofs only [push_cast, ↓reduceIte, Nat.reduceEqDiff, Nat.reduceAdd, Nat.reduceMul, Nat.reduceSub, Nat.reduceLeDiff, Nat.reduceLT, reduceCtorEq]
    refine hK7 _ ?_
    clear hK7
    refine SC.cond ?_
    simp -implicitDefEqProofs only [push_cast, ↓reduceIte, Nat.reduceEqDiff, Nat.reduceAdd, Nat.reduceMul, Nat.reduceSub, Nat.reduceLeDiff, Nat.reduceLT, reduceCtorEq]
    refine ⟨fun h1 => ?_, fun h1 => ?_⟩
    · skip
      have h0 : 0 < l.length := by omega
      have hg : l[0]? = some l[0] := List.getElem?_eq_getElem h0
      have hsF : seenF l = l[0].num := by simp [seenF, hg]
      have hln : (l.take (seenN l arr t)).length = seenN l arr t := by rw [List.length_take]; omega
      have hrt : F1.to (rowF (slA a 0 c 20) (segsC (l.take (seenN l arr t)))) := by
        rw [← segsC_take]
        have := rowF_drop (c := c) (z := 20) (Fact.to_trans hto hF) 0 (by rw [segsC_length]; omega)
        rw [Nat.zero_mul, List.drop_zero] at this
        exact rowF_take this _
      refine SC.drawnP (.take 0 (.take 1 (.take 2 (.take 4 (.take 5 (.take 6 (.load 3 (.forkE 7 [23] (.take 8 (.fork 9 (.done) (.stop))) (.stop))))))))) (by kernel_rfl) (by kernel_rfl) (fun _ _ h => h) ?_
      simp -implicitDefEqProofs only [push_cast, ↓reduceIte, Nat.reduceEqDiff, Nat.reduceAdd, Nat.reduceMul, Nat.reduceSub, Nat.reduceLeDiff, Nat.reduceLT, reduceCtorEq]
      have hFa : F1.to (rowF a (segsC l)) := Fact.to_trans hto hF
      have hcl := clone_fn (l.take (seenN l arr t)) (slA a 0 c 20) c F1 hrt (by rw [hln]; omega) (by rw [hln]; omega)
      simp only [hln] at hcl
      repeat' (first
        | (with_reducible refine And.intro (rowF_some hFa (segsC_ne (by omega))) ?_)
        | (with_reducible refine loadSegC 0 hFa hg ?_ ?_ ?_
           · omega
           · omega
           simp -implicitDefEqProofs only [push_cast, ↓reduceIte, Nat.reduceEqDiff, Nat.reduceAdd, Nat.reduceMul, Nat.reduceSub, Nat.reduceLeDiff, Nat.reduceLT, reduceCtorEq, segC])
        | (with_reducible refine callL_fn hcl ?_ (fun _ h => h) ?_
           · rfl
           rintro v G ⟨ao, co, rfl, hco, hG⟩
           simp -implicitDefEqProofs only [push_cast, ↓reduceIte, Nat.reduceEqDiff, Nat.reduceAdd, Nat.reduceMul, Nat.reduceSub, Nat.reduceLeDiff, Nat.reduceLT, reduceCtorEq, Int.toNat_natCast])
        | (with_reducible refine And.intro (by omega) ?_)
        | (with_reducible refine And.intro ?_ ?_)
        | intro h
        | exact rfl)
      rw [← hsF]
      exact key5 _ _ _ (by assumption) (Fact.to_right (by assumption))
    · skip
      refine SC.skip ?_
      simp -implicitDefEqProofs only [push_cast, ↓reduceIte, Nat.reduceEqDiff, Nat.reduceAdd, Nat.reduceMul, Nat.reduceSub, Nat.reduceLeDiff, Nat.reduceLT, reduceCtorEq]
      have hn : l = [] := List.eq_nil_of_length_eq_zero (by omega)
      subst hn
      have h9 : seenN [] arr t = 0 := by simp at hsn; exact hsn
      have := key5 none 0 F1 (by omega) (by simp only [seenO, List.take_nil]; exact rowF_nil _ _)
      rw [h9] at this
      exact this
  refine SC.seqN [0, 3, 8, 9, 15] [.l 6, .l 8] fun K8 hK8 => SC.region ?_
  simp -implicitDefEqProofs only [push_cast, ↓reduceIte, Nat.reduceEqDiff, Nat.reduceAdd, Nat.reduceMul, Nat.reduceSub, Nat.reduceLeDiff, Nat.reduceLT, reduceCtorEq]
  refine hK8 _ ?_
  clear hK8
  refine SC.cond ?_
  simp -implicitDefEqProofs only [push_cast, ↓reduceIte, Nat.reduceEqDiff, Nat.reduceAdd, Nat.reduceMul, Nat.reduceSub, Nat.reduceLeDiff, Nat.reduceLT, reduceCtorEq]
  refine ⟨fun h2 => ?_, fun h2 => ?_⟩
  · skip
    refine SC.region ?_
    simp -implicitDefEqProofs only [push_cast, ↓reduceIte, Nat.reduceEqDiff, Nat.reduceAdd, Nat.reduceMul, Nat.reduceSub, Nat.reduceLeDiff, Nat.reduceLT, reduceCtorEq]
    have hi := idxI_lt arr fun x => decide (t < x)
    have h9 : seenN l arr t = l.length := by
      unfold seenN
      unfold idxI at h2
      cases hf : arr.findIdx? (fun x => decide (t < x)) with
      | none => rfl
      | some i => rw [hf] at h2; simp only at h2; omega
    rw [h9] at key3
    exact key3
  · skip
    refine SC.skip ?_
    simp -implicitDefEqProofs only [push_cast, ↓reduceIte, Nat.reduceEqDiff, Nat.reduceAdd, Nat.reduceMul, Nat.reduceSub, Nat.reduceLeDiff, Nat.reduceLT, reduceCtorEq]
    have h9 : ((seenN l arr t : Nat) : Int) = idxI arr fun x => decide (t < x) := by
      unfold seenN
      unfold idxI at h2 ⊢
      cases hf : arr.findIdx? (fun x => decide (t < x)) with
      | none => rw [hf] at h2; simp at h2
      | some i => rfl
    rw [h9] at key3
    exact key3
end Go.Proofs.YtmamodnpghlgcaaGreatDoor
/- The specification's Seen; the law's segments. -/

set_option linter.unusedSimpArgs false
set_option linter.unusedVariables false
set_option maxRecDepth 100000
set_option maxHeartbeats 4000000
namespace Go.Proofs.YtmamodnpghlgcaaGreatDoor
open Go.RowKit
def seenB (l : List Seg) (arr : List Int) (t : Int) (i : Nat) : Bool := match l[i]?, arr[i]? with | some _, some x => decide (x ≤ t) | _, _ => false
theorem refSeen_fn (l : List Seg) (arr : List Int) (a a' : Option Addr) (c c' : Nat) (t w : Int) (F : Fact) (hF : F.to (rowF a (segsC l))) (hF' : F.to (rowF a' (ints arr))) (hl : l.length ≤ 1000) (hla : arr.length = l.length) (hs : ∀ s ∈ l, s.Ok) (hw : 1 ≤ w ∧ w ≤ 1000000) :
    Fn Tryz.prog 21 [.slice a l.length c, .slice a' arr.length c', .int .i64 t, .int .i64 w] F fun v G => isPl (refCut (seenO l arr t) w) G v := by
  refine Fn.of_body Tryz.func21 rfl (Nat.le_of_ble_eq_true rfl) (Nat.le_of_ble_eq_true rfl) (by kernel_rfl) ?_
  refine SC.seqN [0, 1, 2, 3, 8] [.l 8, .l 39, .l 40, .l 900] fun K1 hK1 => SC.region ?_
  simp -implicitDefEqProofs only [push_cast, ↓reduceIte, Nat.reduceEqDiff, Nat.reduceAdd, Nat.reduceMul, Nat.reduceSub, Nat.reduceLeDiff, Nat.reduceLT, reduceCtorEq]
  refine hK1 _ ?_
  clear hK1
  refine SC.seqN [0, 1, 2, 3, 8, 9] [.l 8, .l 9, .l 39, .l 40, .l 900] fun K2 hK2 => SC.region ?_
  simp -implicitDefEqProofs only [push_cast, ↓reduceIte, Nat.reduceEqDiff, Nat.reduceAdd, Nat.reduceMul, Nat.reduceSub, Nat.reduceLeDiff, Nat.reduceLT, reduceCtorEq]
  refine hK2 _ ?_
  clear hK2
  refine SC.seqM [0, 1, 2, 3, 8, 9] [.l 8, .l 9, .l 39, .l 40, .l 900] fun K3 hK3 hJ3 => ?_
  have key3 : K3 ⟨[(0, .v (.slice a l.length c)), (1, .v (.slice a' arr.length c')), (2, .v (.int .i64 t)), (3, .v (.int .i64 w)), (8, .own (.l 8) 0), (9, .own (.l 9) 0)], [(.l 8, .box [.v (.int .i64 0), .v (.slice none 0 0), .v (.bool false)] 24), (.l 9, .box [.v (.int .i64 (seenF l)), .v (.slice none 0 0), .v (.bool false)] 24)], F⟩ := by
    refine hK3 _ ?_
    refine SC.adB (k := .l 9) (j := 1) (q := 900) (et := 57) (sz := 20) rfl rfl (by decide) (by simp -implicitDefEqProofs only [push_cast, ↓reduceIte, Nat.reduceEqDiff, Nat.reduceAdd, Nat.reduceMul, Nat.reduceSub, Nat.reduceLeDiff, Nat.reduceLT, reduceCtorEq]) (by simp -implicitDefEqProofs only [push_cast, ↓reduceIte, Nat.reduceEqDiff, Nat.reduceAdd, Nat.reduceMul, Nat.reduceSub, Nat.reduceLeDiff, Nat.reduceLT, reduceCtorEq]) ?_
    simp -implicitDefEqProofs only [push_cast, ↓reduceIte, Nat.reduceEqDiff, Nat.reduceAdd, Nat.reduceMul, Nat.reduceSub, Nat.reduceLeDiff, Nat.reduceLT, reduceCtorEq]
    refine SC.seqN [3, 8, 9] [.l 8, .l 9, .l 39, .l 40, .l 900] fun K4 hK4 => ?_
    refine SC.seqN [0, 1, 2, 3, 8, 9, 10] [.l 8, .l 9, .l 39, .l 40, .l 900] fun K5 hK5 => SC.region ?_
    simp -implicitDefEqProofs only [push_cast, ↓reduceIte, Nat.reduceEqDiff, Nat.reduceAdd, Nat.reduceMul, Nat.reduceSub, Nat.reduceLeDiff, Nat.reduceLT, reduceCtorEq]
    refine hK5 _ ?_
    clear hK5
    refine SC.block ?_
    refine SC.loop (fun i : Nat => ⟨[(0, .v (.slice a l.length c)), (1, .v (.slice a' arr.length c')), (2, .v (.int .i64 t)), (3, .v (.int .i64 w)), (8, .own (.l 8) 0), (9, .own (.l 9) 0), (10, .v (.int .i64 i))], [(.l 8, .box [.v (.int .i64 0), .v (.slice none 0 0), .v (.bool false)] 24), (.l 9, .box [.v (.int .i64 (seenF l)), .row (.l 900), .v (.bool false)] 24), (.l 900, .row 57 20 i (segsC (l.take i)))], F⟩) (fun i => i ≤ l.length ∧ ∀ j x, j < i → arr[j]? = some x → x ≤ t) (fun i => l.length - i) 0 (Le.refl _) ⟨Nat.zero_le _, fun j x hj => absurd hj (Nat.not_lt_zero j)⟩ fun i hx => ?_
    refine SC.seqN [0, 1, 2, 3, 8, 9, 10] [.l 8, .l 9, .l 39, .l 40, .l 900] fun K6 hK6 => ?_
    refine SC.seqN [0, 1, 2, 3, 8, 9, 10, 30] [.l 8, .l 9, .l 39, .l 40, .l 900] fun K7 hK7 => SC.region ?_
    simp -implicitDefEqProofs only [push_cast, ↓reduceIte, Nat.reduceEqDiff, Nat.reduceAdd, Nat.reduceMul, Nat.reduceSub, Nat.reduceLeDiff, Nat.reduceLT, reduceCtorEq]
    suffices key7 : ∀ b, b = seenB l arr t i → K7 ⟨[(0, .v (.slice a l.length c)), (1, .v (.slice a' arr.length c')), (2, .v (.int .i64 t)), (3, .v (.int .i64 w)), (8, .own (.l 8) 0), (9, .own (.l 9) 0), (10, .v (.int .i64 i)), (30, .v (.bool b))], [(.l 8, .box [.v (.int .i64 0), .v (.slice none 0 0), .v (.bool false)] 24), (.l 9, .box [.v (.int .i64 (seenF l)), .row (.l 900), .v (.bool false)] 24), (.l 900, .row 57 20 i (segsC (l.take i)))], F⟩ by
      clear hK4 hK6 hK7
      by_cases hil : i < l.length
      · have hs0 : l[i]? = some l[i] := List.getElem?_eq_getElem hil
        have ha0 : arr[i]? = some (arr[i]'(by omega)) := List.getElem?_eq_getElem (by omega)
        repeat' (first
          | (with_reducible refine And.intro (rowF_some hF' (ints_ne (by omega))) ?_)
          | (with_reducible refine loadInt i hF' ha0 ?_ ?_
             · omega
             simp -implicitDefEqProofs only [push_cast, ↓reduceIte, Nat.reduceEqDiff, Nat.reduceAdd, Nat.reduceMul, Nat.reduceSub, Nat.reduceLeDiff, Nat.reduceLT, reduceCtorEq])
          | (with_reducible refine And.intro (by omega) ?_)
          | (with_reducible refine And.intro ?_ ?_)
          | intro h
          | exact rfl)
        all_goals (refine key7 _ ?_; simp only [seenB, hs0, ha0])
        all_goals (exfalso; omega)
      · have hs0 : l[i]? = none := List.getElem?_eq_none (by omega)
        refine ⟨fun h => absurd h (by omega), fun h => ?_⟩
        exact key7 _ (by simp only [seenB, hs0])
    intro b hb
    subst hb
    refine hK7 _ ?_
    clear hK7
    refine SC.cond ?_
    simp -implicitDefEqProofs only [push_cast, ↓reduceIte, Nat.reduceEqDiff, Nat.reduceAdd, Nat.reduceMul, Nat.reduceSub, Nat.reduceLeDiff, Nat.reduceLT, reduceCtorEq]
    refine ⟨fun h1 => ?_, fun h1 => ?_⟩
    · skip
      have hil : i < l.length := by
        cases hg : l[i]? with
        | none => simp [seenB, hg] at h1
        | some s => exact (List.getElem?_eq_some_iff.1 hg).1
      have hs0 : l[i]? = some l[i] := List.getElem?_eq_getElem hil
      have ha0 : arr[i]? = some (arr[i]'(by omega)) := List.getElem?_eq_getElem (by omega)
      refine SC.skip ?_
      simp -implicitDefEqProofs only [push_cast, ↓reduceIte, Nat.reduceEqDiff, Nat.reduceAdd, Nat.reduceMul, Nat.reduceSub, Nat.reduceLeDiff, Nat.reduceLT, reduceCtorEq]
      refine hK6 _ ?_
      clear hK6
      refine SC.seqN [0, 1, 2, 3, 8, 9, 10] [.l 8, .l 9, .l 39, .l 40, .l 900] fun K8 hK8 => ?_
      refine SC.block ?_
      refine SC.drawnP (.take 0 (.take 2 (.take 3 (.take 4 (.load 5 (.forkE 1 [37] (.fork 6 (.fork 7 (.take 8 (.fork 9 (.done) (.stop))) (.stop)) (.stop)) (.fork 6 (.fork 1 (.fork 7 (.take 8 (.fork 9 (.done) (.stop))) (.stop)) (.stop)) (.stop)))))))) (by kernel_rfl) (by kernel_rfl) (fun _ _ h => h) ?_
      simp -implicitDefEqProofs only [push_cast, ↓reduceIte, Nat.reduceEqDiff, Nat.reduceAdd, Nat.reduceMul, Nat.reduceSub, Nat.reduceLeDiff, Nat.reduceLT, reduceCtorEq]
      suffices hk : K8 ⟨[(0, .v (.slice a l.length c)), (1, .v (.slice a' arr.length c')), (2, .v (.int .i64 t)), (3, .v (.int .i64 w)), (8, .own (.l 8) 0), (9, .own (.l 9) 0), (10, .v (.int .i64 i))], [(.l 8, .box [.v (.int .i64 0), .v (.slice none 0 0), .v (.bool false)] 24), (.l 9, .box [.v (.int .i64 (seenF l)), .row (.l 40), .v (.bool false)] 24), (.l 39, .row 57 20 1 (segC l[i])), (.l 40, .row 57 20 (i + 1) (segsC (l.take i) ++ segC l[i]))], F⟩ by
        repeat' (first
          | exact hk
          | exact segC_one l[i]
          | (with_reducible refine And.intro (rowF_some hF (segsC_ne (by omega))) ?_)
          | (with_reducible refine loadSeg i hF hs0 ?_ ?_ ?_
             · omega
             · rfl
             simp -implicitDefEqProofs only [push_cast, ↓reduceIte, Nat.reduceEqDiff, Nat.reduceAdd, Nat.reduceMul, Nat.reduceSub, Nat.reduceLeDiff, Nat.reduceLT, reduceCtorEq, segV, segC])
          | (with_reducible refine And.intro (by omega) ?_)
          | (with_reducible refine And.intro ?_ ?_)
          | intro h
          | exact rfl)
        all_goals (first | omega | (rw [mxl]; omega))
      refine hK8 _ ?_
      clear hK8
      refine SC.of_le ?_ (Le.sw _ [(40, 900)])
      simp -implicitDefEqProofs only [push_cast, ↓reduceIte, Nat.reduceEqDiff, Nat.reduceAdd, Nat.reduceMul, Nat.reduceSub, Nat.reduceLeDiff, Nat.reduceLT, reduceCtorEq]
      refine SC.region ?_
      simp -implicitDefEqProofs only [push_cast, ↓reduceIte, Nat.reduceEqDiff, Nat.reduceAdd, Nat.reduceMul, Nat.reduceSub, Nat.reduceLeDiff, Nat.reduceLT, reduceCtorEq]
      refine ⟨by omega, i + 1, ⟨by omega, fun j x hj hjx => ?_⟩, by omega, Le.trans (Le.norm _ [0, 1, 2, 3, 8, 9, 10] [.l 8, .l 9, .l 900]) ?_⟩
      · rcases Nat.lt_succ_iff_lt_or_eq.1 hj with hj | rfl
        · exact hx.2 j x hj hjx
        · simp only [seenB, hs0, hjx, decide_eq_true_eq] at h1
          exact h1
      · have h2 : segsC (l.take (i + 1)) = segsC (l.take i) ++ segC l[i] := by rw [List.take_succ_eq_append_getElem hil, segsC_snoc]
        simp -implicitDefEqProofs only [push_cast, ↓reduceIte, Nat.reduceEqDiff, Nat.reduceAdd, Nat.reduceMul, Nat.reduceSub, Nat.reduceLeDiff, Nat.reduceLT, reduceCtorEq]
        rw [h2]
        exact Le.refl _
    · skip
      have hn : seenN l arr t = i := seenN_eq hla hx.1 hx.2 (by
        rcases Nat.lt_or_ge i l.length with hil | hil
        · right
          have hs0 : l[i]? = some l[i] := List.getElem?_eq_getElem hil
          have ha0 : arr[i]? = some (arr[i]'(by omega)) := List.getElem?_eq_getElem (by omega)
          refine ⟨_, ha0, ?_⟩
          simp only [seenB, hs0, ha0, decide_eq_false_iff_not] at h1
          omega
        · left; omega)
      have hln : (l.take i).length = i := by rw [List.length_take]; omega
      refine SC.exit ?_
      simp -implicitDefEqProofs only [push_cast, ↓reduceIte, Nat.reduceEqDiff, Nat.reduceAdd, Nat.reduceMul, Nat.reduceSub, Nat.reduceLeDiff, Nat.reduceLT, reduceCtorEq]
      refine hK4 _ ?_
      clear hK4
      refine SC.frzRow (k := .l 900) rfl (by rw [segsC_length, hln]) fun ao b co hco => ?_
      simp -implicitDefEqProofs only [push_cast, ↓reduceIte, Nat.reduceEqDiff, Nat.reduceAdd, Nat.reduceMul, Nat.reduceSub, Nat.reduceLeDiff, Nat.reduceLT, reduceCtorEq]
      refine SC.seqN [8] [.l 8, .l 39, .l 40, .l 900] fun K9 hK9 => SC.region ?_
      simp -implicitDefEqProofs only [push_cast, ↓reduceIte, Nat.reduceEqDiff, Nat.reduceAdd, Nat.reduceMul, Nat.reduceSub, Nat.reduceLeDiff, Nat.reduceLT, reduceCtorEq]
      have hsl := seenO_len (Nat.le_of_eq hla) t
      refine callL_fn (refCut_fn (seenO l arr t) (plV (seenF l) ao i co false) w _ ⟨ao, co, by rw [hsl, hn]; rfl, by rw [hsl, hn]; exact hco, by simp only [seenO, hn]; exact Fact.to_right (Fact.to_refl _)⟩ (seenO_ok (Nat.le_of_eq hla) t hl hs) hw) rfl (fun _ h => h) ?_
      rintro v G ⟨a2, c2, rfl, hc2, hG⟩
      simp -implicitDefEqProofs only [push_cast, ↓reduceIte, Nat.reduceEqDiff, Nat.reduceAdd, Nat.reduceMul, Nat.reduceSub, Nat.reduceLeDiff, Nat.reduceLT, reduceCtorEq, plV]
      refine hK9 _ ?_
      clear hK9
      refine SC.ret ?_
      simp -implicitDefEqProofs only [push_cast, ↓reduceIte, Nat.reduceEqDiff, Nat.reduceAdd, Nat.reduceMul, Nat.reduceSub, Nat.reduceLeDiff, Nat.reduceLT, reduceCtorEq, Tryz.f21]
      exact ⟨a2, c2, rfl, hc2, Fact.to_right hG⟩
  refine SC.seqN [0, 1, 2, 3, 8, 9, 13] [.l 8, .l 9, .l 39, .l 40, .l 900] fun K10 hK10 => SC.region ?_
  simp -implicitDefEqProofs only [push_cast, ↓reduceIte, Nat.reduceEqDiff, Nat.reduceAdd, Nat.reduceMul, Nat.reduceSub, Nat.reduceLeDiff, Nat.reduceLT, reduceCtorEq]
  refine hK10 _ ?_
  clear hK10
  refine SC.cond ?_
  simp -implicitDefEqProofs only [push_cast, ↓reduceIte, Nat.reduceEqDiff, Nat.reduceAdd, Nat.reduceMul, Nat.reduceSub, Nat.reduceLeDiff, Nat.reduceLT, reduceCtorEq]
  refine ⟨fun h2 => ?_, fun h2 => ?_⟩
  · skip
    have h0 : 0 < l.length := by omega
    have hg : l[0]? = some l[0] := List.getElem?_eq_getElem h0
    have hsF : seenF l = l[0].num := by simp [seenF, hg]
    refine SC.region ?_
    simp -implicitDefEqProofs only [push_cast, ↓reduceIte, Nat.reduceEqDiff, Nat.reduceAdd, Nat.reduceMul, Nat.reduceSub, Nat.reduceLeDiff, Nat.reduceLT, reduceCtorEq]
    refine ⟨by omega, rowF_some hF (segsC_ne h0), loadSegC 0 hF hg rfl (by omega) ?_⟩
    simp -implicitDefEqProofs only [push_cast, ↓reduceIte, Nat.reduceEqDiff, Nat.reduceAdd, Nat.reduceMul, Nat.reduceSub, Nat.reduceLeDiff, Nat.reduceLT, reduceCtorEq, segC]
    rw [← hsF]
    exact key3
  · skip
    refine SC.skip ?_
    simp -implicitDefEqProofs only [push_cast, ↓reduceIte, Nat.reduceEqDiff, Nat.reduceAdd, Nat.reduceMul, Nat.reduceSub, Nat.reduceLeDiff, Nat.reduceLT, reduceCtorEq]
    have hn : l = [] := List.eq_nil_of_length_eq_zero (by omega)
    have hsF : seenF l = 0 := by rw [hn]; rfl
    rw [hsF] at key3
    exact key3
def segM (i : Int) : Seg := ⟨4 + i, 100 + 10 * i, 10, fun j => if j = 0 then i else 0, 0⟩
def segsM (n : Nat) : List Seg := (List.range n).map fun (i : Nat) => segM (i : Int)
theorem segsM_succ (n : Nat) : segsM (n + 1) = segsM n ++ [segM (n : Int)] := by simp [segsM, List.range_succ]
theorem segsM_length (n : Nat) : (segsM n).length = n := by simp [segsM]
theorem segments_fn (n : Nat) (hn : n ≤ 100) (F : Fact) : Fn Tryz.prog 36 [.int .i64 n] F fun v G => ∃ a c, v = .slice a n c ∧ n ≤ c ∧ G.to (rowF a (segsC (segsM n))) := by
  refine Fn.of_body Tryz.func36 rfl (Nat.le_of_ble_eq_true rfl) (Nat.le_of_ble_eq_true rfl) (by kernel_rfl) ?_
  refine SC.seqN [0] [.l 19, .l 20, .l 900] fun K1 hK1 => SC.region ?_
  simp -implicitDefEqProofs only [push_cast, ↓reduceIte, Nat.reduceEqDiff, Nat.reduceAdd, Nat.reduceMul, Nat.reduceSub, Nat.reduceLeDiff, Nat.reduceLT, reduceCtorEq]
  refine hK1 _ ?_
  clear hK1
  refine SC.seqN [0, 3] [.l 19, .l 20, .l 900] fun K2 hK2 => SC.region ?_
  simp -implicitDefEqProofs only [push_cast, ↓reduceIte, Nat.reduceEqDiff, Nat.reduceAdd, Nat.reduceMul, Nat.reduceSub, Nat.reduceLeDiff, Nat.reduceLT, reduceCtorEq]
  refine hK2 _ ?_
  clear hK2
  refine SC.adT (i := 3) (q := 900) (et := 57) (sz := 20) rfl (by simp -implicitDefEqProofs only [push_cast, ↓reduceIte, Nat.reduceEqDiff, Nat.reduceAdd, Nat.reduceMul, Nat.reduceSub, Nat.reduceLeDiff, Nat.reduceLT, reduceCtorEq]) (by simp -implicitDefEqProofs only [push_cast, ↓reduceIte, Nat.reduceEqDiff, Nat.reduceAdd, Nat.reduceMul, Nat.reduceSub, Nat.reduceLeDiff, Nat.reduceLT, reduceCtorEq]) ?_
  simp -implicitDefEqProofs only [push_cast, ↓reduceIte, Nat.reduceEqDiff, Nat.reduceAdd, Nat.reduceMul, Nat.reduceSub, Nat.reduceLeDiff, Nat.reduceLT, reduceCtorEq]
  refine SC.seqN [3] [.l 19, .l 20, .l 900] fun K3 hK3 => ?_
  refine SC.seqN [3, 5, 6] [.l 19, .l 20, .l 900] fun K4 hK4 => SC.region ?_
  simp -implicitDefEqProofs only [push_cast, ↓reduceIte, Nat.reduceEqDiff, Nat.reduceAdd, Nat.reduceMul, Nat.reduceSub, Nat.reduceLeDiff, Nat.reduceLT, reduceCtorEq]
  refine hK4 _ ?_
  clear hK4
  refine SC.block ?_
  refine SC.loop (fun i : Nat => ⟨[(3, .row (.l 900)), (5, .v (.int .i64 n)), (6, .v (.int .i64 i))], [(.l 900, .row 57 20 i (segsC (segsM i)))], F⟩) (fun i => i ≤ n) (fun i => n - i) 0 (Le.refl _) (Nat.zero_le _) fun i hx => ?_
  refine SC.seqN [3, 5, 6, 7] [.l 19, .l 20, .l 900] fun K5 hK5 => SC.region ?_
  simp -implicitDefEqProofs only [push_cast, ↓reduceIte, Nat.reduceEqDiff, Nat.reduceAdd, Nat.reduceMul, Nat.reduceSub, Nat.reduceLeDiff, Nat.reduceLT, reduceCtorEq]
  refine hK5 _ ?_
  clear hK5
  refine SC.seqN [3, 5, 6] [.l 19, .l 20, .l 900] fun K6 hK6 => ?_
  refine SC.cond ?_
  simp -implicitDefEqProofs only [push_cast, ↓reduceIte, Nat.reduceEqDiff, Nat.reduceAdd, Nat.reduceMul, Nat.reduceSub, Nat.reduceLeDiff, Nat.reduceLT, reduceCtorEq]
  refine ⟨fun h1 => ?_, fun h1 => ?_⟩
  · skip
    refine SC.skip ?_
    simp -implicitDefEqProofs only [push_cast, ↓reduceIte, Nat.reduceEqDiff, Nat.reduceAdd, Nat.reduceMul, Nat.reduceSub, Nat.reduceLeDiff, Nat.reduceLT, reduceCtorEq]
    refine hK6 _ ?_
    clear hK6
    refine SC.seqN [3, 5, 6] [.l 19, .l 20, .l 900] fun K7 hK7 => ?_
    refine SC.block ?_
    refine SC.seqN [3, 4, 5, 6] [.l 19, .l 20, .l 900] fun K8 hK8 => SC.region ?_
    simp -implicitDefEqProofs only [push_cast, ↓reduceIte, Nat.reduceEqDiff, Nat.reduceAdd, Nat.reduceMul, Nat.reduceSub, Nat.reduceLeDiff, Nat.reduceLT, reduceCtorEq]
    refine hK8 _ ?_
    clear hK8
    refine SC.region ?_
    simp -implicitDefEqProofs only [push_cast, ↓reduceIte, Nat.reduceEqDiff, Nat.reduceAdd, Nat.reduceMul, Nat.reduceSub, Nat.reduceLeDiff, Nat.reduceLT, reduceCtorEq]
    suffices hk : K7 ⟨[(3, .row (.l 20)), (5, .v (.int .i64 n)), (6, .v (.int .i64 i))], [(.l 19, .row 57 20 1 (segC (segM i))), (.l 20, .row 57 20 (i + 1) (segsC (segsM i) ++ segC (segM i)))], F⟩ by
      repeat' (first
        | exact hk
        | exact segC_one (segM i)
        | (with_reducible refine And.intro (by omega) ?_)
        | (with_reducible refine And.intro ?_ ?_)
        | intro h
        | exact rfl)
      all_goals (first | omega | (rw [mxl]; omega))
    refine hK7 _ ?_
    clear hK7
    refine SC.of_le ?_ (Le.sw _ [(20, 900)])
    simp -implicitDefEqProofs only [push_cast, ↓reduceIte, Nat.reduceEqDiff, Nat.reduceAdd, Nat.reduceMul, Nat.reduceSub, Nat.reduceLeDiff, Nat.reduceLT, reduceCtorEq]
    refine SC.region ?_
    simp -implicitDefEqProofs only [push_cast, ↓reduceIte, Nat.reduceEqDiff, Nat.reduceAdd, Nat.reduceMul, Nat.reduceSub, Nat.reduceLeDiff, Nat.reduceLT, reduceCtorEq]
    refine ⟨by omega, i + 1, by omega, by omega, Le.trans (Le.norm _ [3, 5, 6] [.l 900]) ?_⟩
    simp -implicitDefEqProofs only [push_cast, ↓reduceIte, Nat.reduceEqDiff, Nat.reduceAdd, Nat.reduceMul, Nat.reduceSub, Nat.reduceLeDiff, Nat.reduceLT, reduceCtorEq]
    rw [show segsC (segsM (i + 1)) = segsC (segsM i) ++ segC (segM i) by rw [segsM_succ, segsC_snoc]]
    exact Le.refl _
  · skip
    refine SC.exit ?_
    simp -implicitDefEqProofs only [push_cast, ↓reduceIte, Nat.reduceEqDiff, Nat.reduceAdd, Nat.reduceMul, Nat.reduceSub, Nat.reduceLeDiff, Nat.reduceLT, reduceCtorEq]
    refine hK3 _ ?_
    clear hK3
    refine SC.seqN [2] [.l 19, .l 20, .l 900] fun K9 hK9 => SC.region ?_
    simp -implicitDefEqProofs only [push_cast, ↓reduceIte, Nat.reduceEqDiff, Nat.reduceAdd, Nat.reduceMul, Nat.reduceSub, Nat.reduceLeDiff, Nat.reduceLT, reduceCtorEq]
    refine hK9 _ ?_
    clear hK9
    refine SC.frzRow (k := .l 900) rfl (by rw [segsC_length, segsM_length]) fun ao b co hco => ?_
    simp -implicitDefEqProofs only [push_cast, ↓reduceIte, Nat.reduceEqDiff, Nat.reduceAdd, Nat.reduceMul, Nat.reduceSub, Nat.reduceLeDiff, Nat.reduceLT, reduceCtorEq]
    refine SC.ret ?_
    simp -implicitDefEqProofs only [push_cast, ↓reduceIte, Nat.reduceEqDiff, Nat.reduceAdd, Nat.reduceMul, Nat.reduceSub, Nat.reduceLeDiff, Nat.reduceLT, reduceCtorEq, Tryz.f36]
    have hin : i = n := by omega
    subst hin
    exact ⟨ao, co, rfl, hco, Fact.to_right (Fact.to_refl _)⟩
end Go.Proofs.YtmamodnpghlgcaaGreatDoor
/- Lists of lists of numbers in memory; SameTimes. -/

set_option linter.unusedSimpArgs false
set_option linter.unusedVariables false
set_option maxRecDepth 100000
set_option maxHeartbeats 4000000
namespace Go.Proofs.YtmamodnpghlgcaaGreatDoor
open Go.RowKit
/-- The slices of a list of lists. -/
def slcs (aa : Nat → Option Addr) (cc : Nat → Nat) (ls : List (List Int)) : List Value := ls.mapIdx fun i l => .slice (aa i) l.length (cc i)
theorem slcs_length (aa : Nat → Option Addr) (cc : Nat → Nat) (ls : List (List Int)) : (slcs aa cc ls).length = ls.length := by simp [slcs]
theorem slcs_get {aa : Nat → Option Addr} {cc : Nat → Nat} {ls : List (List Int)} {i : Nat} {l : List Int} (h : ls[i]? = some l) : (slcs aa cc ls)[i]? = some (.slice (aa i) l.length (cc i)) := by simp [slcs, h]
theorem slcs_ne {aa : Nat → Option Addr} {cc : Nat → Nat} {ls : List (List Int)} (h : 0 < ls.length) : slcs aa cc ls ≠ [] := by intro hn; have := slcs_length aa cc ls; rw [hn] at this; simp at this; omega
def rowsOk (F : Fact) (aa : Nat → Option Addr) (cc : Nat → Nat) (ls : List (List Int)) : Prop := ∀ i l, ls[i]? = some l → l.length ≤ cc i ∧ F.to (rowF (aa i) (ints l))
def isIntss (ls : List (List Int)) (F : Fact) (v : Value) : Prop := ∃ a c aa cc, v = .slice a ls.length c ∧ ls.length ≤ c ∧ F.to (rowF a (slcs aa cc ls)) ∧ rowsOk F aa cc ls
theorem rowsOk.to {F G : Fact} {aa : Nat → Option Addr} {cc : Nat → Nat} {ls : List (List Int)} (h : rowsOk F aa cc ls) (hg : G.to F) : rowsOk G aa cc ls := fun i l hl => ⟨(h i l hl).1, Fact.to_trans hg (h i l hl).2⟩
theorem isIntss.to {ls : List (List Int)} {F G : Fact} {v : Value} (h : isIntss ls F v) (hg : G.to F) : isIntss ls G v := by
  obtain ⟨a, c, aa, cc, h1, h2, h3, h4⟩ := h
  exact ⟨a, c, aa, cc, h1, h2, Fact.to_trans hg h3, h4.to hg⟩
theorem loadRow {n : Nat} {F : Fact} {a : Option Addr} {aa : Nat → Option Addr} {cc : Nat → Nat} {ls : List (List Int)} {k : SV → Prop} {j : Int} (i : Nat) {l : List Int} (h : F.to (rowF a (slcs aa cc ls))) (hi : ls[i]? = some l) (hj : j = (i : Int)) (hk : k (.v (.slice (aa i) l.length (cc i)))) : loadF (some (false, n)) F ((a.getD default).add (j.toNat * 1)) k := by
  subst hj
  rw [Int.toNat_natCast, Nat.mul_one]
  exact loadF_one _ h (slcs_get hi) hk
def sameRow (l m : List Int) : Bool := decide (l = m)
def timesEq (x y : List (List Int)) : Bool := decide (x = y)
theorem list_ext_pre {α : Type} {l m : List α} (hl : l.length = m.length) (h : ∀ (j : Nat) (x y : α), l[j]? = some x → m[j]? = some y → x = y) : l = m := by
  apply List.ext_getElem hl
  intro i h1 h2
  exact h i _ _ (List.getElem?_eq_getElem h1) (List.getElem?_eq_getElem h2)
theorem sameTimes_fn (x y : List (List Int)) (v v' : Value) (F : Fact) (hx : isIntss x F v) (hy : isIntss y F v') (hlx : x.length ≤ 100000) (hly : y.length ≤ 100000) (hrx : ∀ l ∈ x, l.length ≤ 100000) (hry : ∀ l ∈ y, l.length ≤ 100000) : Fn Tryz.prog 19 [v, v'] F fun v _ => v = .bool (timesEq x y) := by
  obtain ⟨a, c, aa, cc, rfl, hc, hF, hR⟩ := hx
  obtain ⟨a', c', aa', cc', rfl, hc', hF', hR'⟩ := hy
  refine Fn.of_body Tryz.func19 rfl (Nat.le_of_ble_eq_true rfl) (Nat.le_of_ble_eq_true rfl) (by kernel_rfl) ?_
  refine SC.seqN [0, 1] [] fun K1 hK1 => SC.region ?_
  simp -implicitDefEqProofs only [push_cast, ↓reduceIte, Nat.reduceEqDiff, Nat.reduceAdd, Nat.reduceMul, Nat.reduceSub, Nat.reduceLeDiff, Nat.reduceLT, reduceCtorEq]
  refine hK1 _ ?_
  clear hK1
  refine SC.seqN [0, 1] [] fun K2 hK2 => ?_
  refine SC.seqN [0, 1, 11] [] fun K3 hK3 => SC.region ?_
  simp -implicitDefEqProofs only [push_cast, ↓reduceIte, Nat.reduceEqDiff, Nat.reduceAdd, Nat.reduceMul, Nat.reduceSub, Nat.reduceLeDiff, Nat.reduceLT, reduceCtorEq]
  refine hK3 _ ?_
  clear hK3
  refine SC.cond ?_
  simp -implicitDefEqProofs only [push_cast, ↓reduceIte, Nat.reduceEqDiff, Nat.reduceAdd, Nat.reduceMul, Nat.reduceSub, Nat.reduceLeDiff, Nat.reduceLT, reduceCtorEq]
  refine ⟨fun h1 => ?_, fun h1 => ?_⟩
  · skip
    refine SC.seqN [4] [] fun K4 hK4 => SC.region ?_
    simp -implicitDefEqProofs only [push_cast, ↓reduceIte, Nat.reduceEqDiff, Nat.reduceAdd, Nat.reduceMul, Nat.reduceSub, Nat.reduceLeDiff, Nat.reduceLT, reduceCtorEq]
    refine hK4 _ ?_
    clear hK4
    refine SC.ret ?_
    simp -implicitDefEqProofs only [push_cast, ↓reduceIte, Nat.reduceEqDiff, Nat.reduceAdd, Nat.reduceMul, Nat.reduceSub, Nat.reduceLeDiff, Nat.reduceLT, reduceCtorEq, Tryz.f19]
    have : x ≠ y := by rintro rfl; exact h1 rfl
    simp [timesEq, this]
  · skip
    have hlen : x.length = y.length := by omega
    refine SC.skip ?_
    simp -implicitDefEqProofs only [push_cast, ↓reduceIte, Nat.reduceEqDiff, Nat.reduceAdd, Nat.reduceMul, Nat.reduceSub, Nat.reduceLeDiff, Nat.reduceLT, reduceCtorEq]
    refine hK2 _ ?_
    clear hK2
    refine SC.seqN [] [] fun K5 hK5 => ?_
    refine SC.seqN [0, 1, 5] [] fun K6 hK6 => SC.region ?_
    simp -implicitDefEqProofs only [push_cast, ↓reduceIte, Nat.reduceEqDiff, Nat.reduceAdd, Nat.reduceMul, Nat.reduceSub, Nat.reduceLeDiff, Nat.reduceLT, reduceCtorEq]
    refine hK6 _ ?_
    clear hK6
    refine SC.block ?_
    refine SC.loop (fun i : Nat => ⟨[(0, .v (.slice a x.length c)), (1, .v (.slice a' y.length c')), (5, .v (.int .i64 i))], [], F⟩) (fun i => i ≤ x.length ∧ ∀ j l m, j < i → x[j]? = some l → y[j]? = some m → l = m) (fun i => x.length - i) 0 (Le.refl _) ⟨Nat.zero_le _, fun j l m hj => absurd hj (Nat.not_lt_zero j)⟩ fun i hi => ?_
    refine SC.seqN [0, 1, 5] [] fun K7 hK7 => ?_
    refine SC.seqN [0, 1, 5, 15] [] fun K8 hK8 => SC.region ?_
    simp -implicitDefEqProofs only [push_cast, ↓reduceIte, Nat.reduceEqDiff, Nat.reduceAdd, Nat.reduceMul, Nat.reduceSub, Nat.reduceLeDiff, Nat.reduceLT, reduceCtorEq]
    refine hK8 _ ?_
    clear hK8
    refine SC.cond ?_
    simp -implicitDefEqProofs only [push_cast, ↓reduceIte, Nat.reduceEqDiff, Nat.reduceAdd, Nat.reduceMul, Nat.reduceSub, Nat.reduceLeDiff, Nat.reduceLT, reduceCtorEq]
    refine ⟨fun h2 => ?_, fun h2 => ?_⟩
    · skip
      have hil : i < x.length := by omega
      have hgx : x[i]? = some x[i] := List.getElem?_eq_getElem hil
      have hgy : y[i]? = some (y[i]'(by omega)) := List.getElem?_eq_getElem (by omega)
      obtain ⟨p, hp⟩ : ∃ p, p = x[i] := ⟨_, rfl⟩
      obtain ⟨q, hq⟩ : ∃ q, q = y[i]'(by omega) := ⟨_, rfl⟩
      rw [← hp] at hgx
      rw [← hq] at hgy
      have hrp := hR i p hgx
      have hrq := hR' i q hgy
      have hlp := hrx p (List.mem_of_getElem? hgx)
      have hlq := hry q (List.mem_of_getElem? hgy)
      refine SC.skip ?_
      simp -implicitDefEqProofs only [push_cast, ↓reduceIte, Nat.reduceEqDiff, Nat.reduceAdd, Nat.reduceMul, Nat.reduceSub, Nat.reduceLeDiff, Nat.reduceLT, reduceCtorEq]
      refine hK7 _ ?_
      clear hK7
      refine SC.seqN [0, 1, 5] [] fun K9 hK9 => ?_
      refine SC.block ?_
      refine SC.seqN [0, 1, 5] [] fun K10 hK10 => ?_
      refine SC.seqN [0, 1, 5, 28] [] fun K11 hK11 => SC.drawnP (.take 0 (.take 1 (.take 2 (.take 5 (.take 6 (.take 7 (.load 3 (.take 4 (.load 8 (.take 9 (.take 10 (.done)))))))))))) (by kernel_rfl) (by kernel_rfl) (fun _ _ h => h) ?_
      simp -implicitDefEqProofs only [push_cast, ↓reduceIte, Nat.reduceEqDiff, Nat.reduceAdd, Nat.reduceMul, Nat.reduceSub, Nat.reduceLeDiff, Nat.reduceLT, reduceCtorEq]
      suffices key11 : ∀ b, b = decide (p.length ≠ q.length) → K11 ⟨[(0, .v (.slice a x.length c)), (1, .v (.slice a' y.length c')), (5, .v (.int .i64 i)), (28, .v (.bool b))], [], F⟩ by
        clear hK5 hK9 hK10 hK11
        repeat' (first
          | (with_reducible refine And.intro (rowF_some hF (slcs_ne (by omega))) ?_)
          | (with_reducible refine And.intro (rowF_some hF' (slcs_ne (by omega))) ?_)
          | (with_reducible refine loadRow i hF hgx ?_ ?_
             · rfl
             simp -implicitDefEqProofs only [push_cast, ↓reduceIte, Nat.reduceEqDiff, Nat.reduceAdd, Nat.reduceMul, Nat.reduceSub, Nat.reduceLeDiff, Nat.reduceLT, reduceCtorEq])
          | (with_reducible refine loadRow i hF' hgy ?_ ?_
             · rfl
             simp -implicitDefEqProofs only [push_cast, ↓reduceIte, Nat.reduceEqDiff, Nat.reduceAdd, Nat.reduceMul, Nat.reduceSub, Nat.reduceLeDiff, Nat.reduceLT, reduceCtorEq])
          | (with_reducible refine And.intro (by omega) ?_)
          | (with_reducible refine And.intro ?_ ?_)
          | intro h
          | exact rfl)
        all_goals (refine key11 _ ?_; clear key11; rw [Bool.eq_iff_iff]; simp only [decide_eq_true_eq]; omega)
      intro b hb
      subst hb
      refine hK11 _ ?_
      clear hK11
      refine SC.cond ?_
      simp -implicitDefEqProofs only [push_cast, ↓reduceIte, Nat.reduceEqDiff, Nat.reduceAdd, Nat.reduceMul, Nat.reduceSub, Nat.reduceLeDiff, Nat.reduceLT, reduceCtorEq]
      refine ⟨fun h3 => ?_, fun h3 => ?_⟩
      · skip
        refine SC.seqN [4] [] fun K12 hK12 => SC.region ?_
        simp -implicitDefEqProofs only [push_cast, ↓reduceIte, Nat.reduceEqDiff, Nat.reduceAdd, Nat.reduceMul, Nat.reduceSub, Nat.reduceLeDiff, Nat.reduceLT, reduceCtorEq]
        refine hK12 _ ?_
        clear hK12
        refine SC.ret ?_
        simp -implicitDefEqProofs only [push_cast, ↓reduceIte, Nat.reduceEqDiff, Nat.reduceAdd, Nat.reduceMul, Nat.reduceSub, Nat.reduceLeDiff, Nat.reduceLT, reduceCtorEq, Tryz.f19]
        have : x ≠ y := by rintro rfl; rw [hgx] at hgy; exact h3 (by rw [Option.some.inj hgy])
        simp [timesEq, this]
      · skip
        have hpq : p.length = q.length := by omega
        refine SC.skip ?_
        simp -implicitDefEqProofs only [push_cast, ↓reduceIte, Nat.reduceEqDiff, Nat.reduceAdd, Nat.reduceMul, Nat.reduceSub, Nat.reduceLeDiff, Nat.reduceLT, reduceCtorEq]
        refine hK10 _ ?_
        clear hK10
        refine SC.seqN [0, 1, 5, 6] [] fun K13 hK13 => SC.region ?_
        simp -implicitDefEqProofs only [push_cast, ↓reduceIte, Nat.reduceEqDiff, Nat.reduceAdd, Nat.reduceMul, Nat.reduceSub, Nat.reduceLeDiff, Nat.reduceLT, reduceCtorEq]
        refine hK13 _ ?_
        clear hK13
        refine SC.block ?_
        refine SC.loop (fun j : Nat => ⟨[(0, .v (.slice a x.length c)), (1, .v (.slice a' y.length c')), (5, .v (.int .i64 i)), (6, .v (.int .i64 j))], [], F⟩) (fun j => j ≤ p.length ∧ ∀ k u v, k < j → p[k]? = some u → q[k]? = some v → u = v) (fun j => p.length - j) 0 (Le.refl _) ⟨Nat.zero_le _, fun j l m hj => absurd hj (Nat.not_lt_zero j)⟩ fun j hj => ?_
        refine SC.seqN [0, 1, 5, 6] [] fun K14 hK14 => ?_
        refine SC.seqN [0, 1, 5, 6, 35] [] fun K15 hK15 => SC.region ?_
        simp -implicitDefEqProofs only [push_cast, ↓reduceIte, Nat.reduceEqDiff, Nat.reduceAdd, Nat.reduceMul, Nat.reduceSub, Nat.reduceLeDiff, Nat.reduceLT, reduceCtorEq]
        refine ⟨by omega, rowF_some hF (slcs_ne (by omega)), loadRow i hF hgx rfl ?_⟩
        simp -implicitDefEqProofs only [push_cast, ↓reduceIte, Nat.reduceEqDiff, Nat.reduceAdd, Nat.reduceMul, Nat.reduceSub, Nat.reduceLeDiff, Nat.reduceLT, reduceCtorEq]
        refine hK15 _ ?_
        clear hK15
        refine SC.cond ?_
        simp -implicitDefEqProofs only [push_cast, ↓reduceIte, Nat.reduceEqDiff, Nat.reduceAdd, Nat.reduceMul, Nat.reduceSub, Nat.reduceLeDiff, Nat.reduceLT, reduceCtorEq]
        refine ⟨fun h4 => ?_, fun h4 => ?_⟩
        · skip
          have hjl : j < p.length := by omega
          have hjx : p[j]? = some p[j] := List.getElem?_eq_getElem hjl
          have hjy : q[j]? = some (q[j]'(by omega)) := List.getElem?_eq_getElem (by omega)
          refine SC.skip ?_
          simp -implicitDefEqProofs only [push_cast, ↓reduceIte, Nat.reduceEqDiff, Nat.reduceAdd, Nat.reduceMul, Nat.reduceSub, Nat.reduceLeDiff, Nat.reduceLT, reduceCtorEq]
          refine hK14 _ ?_
          clear hK14
          refine SC.seqN [0, 1, 5, 6] [] fun K16 hK16 => ?_
          refine SC.block ?_
          refine SC.seqN [0, 1, 5, 6, 52] [] fun K17 hK17 => SC.drawnP (.take 0 (.take 1 (.take 2 (.take 4 (.take 7 (.take 8 (.take 9 (.take 11 (.load 3 (.take 5 (.load 6 (.load 10 (.take 12 (.load 13 (.take 14 (.done)))))))))))))))) (by kernel_rfl) (by kernel_rfl) (fun _ _ h => h) ?_
          simp -implicitDefEqProofs only [push_cast, ↓reduceIte, Nat.reduceEqDiff, Nat.reduceAdd, Nat.reduceMul, Nat.reduceSub, Nat.reduceLeDiff, Nat.reduceLT, reduceCtorEq]
          suffices key17 : ∀ b, b = decide (p[j] ≠ q[j]'(by omega)) → K17 ⟨[(0, .v (.slice a x.length c)), (1, .v (.slice a' y.length c')), (5, .v (.int .i64 i)), (6, .v (.int .i64 j)), (52, .v (.bool b))], [], F⟩ by
            clear hK5 hK9 hK16 hK17
            repeat' (first
              | (with_reducible refine And.intro (rowF_some hF (slcs_ne (by omega))) ?_)
              | (with_reducible refine And.intro (rowF_some hF' (slcs_ne (by omega))) ?_)
              | (with_reducible refine And.intro (rowF_some hrp.2 (ints_ne (by omega))) ?_)
              | (with_reducible refine And.intro (rowF_some hrq.2 (ints_ne (by omega))) ?_)
              | (with_reducible refine loadRow i hF hgx ?_ ?_
                 · rfl
                 simp -implicitDefEqProofs only [push_cast, ↓reduceIte, Nat.reduceEqDiff, Nat.reduceAdd, Nat.reduceMul, Nat.reduceSub, Nat.reduceLeDiff, Nat.reduceLT, reduceCtorEq])
              | (with_reducible refine loadRow i hF' hgy ?_ ?_
                 · rfl
                 simp -implicitDefEqProofs only [push_cast, ↓reduceIte, Nat.reduceEqDiff, Nat.reduceAdd, Nat.reduceMul, Nat.reduceSub, Nat.reduceLeDiff, Nat.reduceLT, reduceCtorEq])
              | (with_reducible refine loadInt j hrp.2 hjx ?_ ?_
                 · rfl
                 simp -implicitDefEqProofs only [push_cast, ↓reduceIte, Nat.reduceEqDiff, Nat.reduceAdd, Nat.reduceMul, Nat.reduceSub, Nat.reduceLeDiff, Nat.reduceLT, reduceCtorEq])
              | (with_reducible refine loadInt j hrq.2 hjy ?_ ?_
                 · rfl
                 simp -implicitDefEqProofs only [push_cast, ↓reduceIte, Nat.reduceEqDiff, Nat.reduceAdd, Nat.reduceMul, Nat.reduceSub, Nat.reduceLeDiff, Nat.reduceLT, reduceCtorEq])
              | (with_reducible refine And.intro (by omega) ?_)
              | (with_reducible refine And.intro ?_ ?_)
              | intro h
              | exact rfl)
            all_goals exact key17 _ rfl
          intro b hb
          subst hb
          refine hK17 _ ?_
          clear hK17
          refine SC.cond ?_
          simp -implicitDefEqProofs only [push_cast, ↓reduceIte, Nat.reduceEqDiff, Nat.reduceAdd, Nat.reduceMul, Nat.reduceSub, Nat.reduceLeDiff, Nat.reduceLT, reduceCtorEq]
          refine ⟨fun h5 => ?_, fun h5 => ?_⟩
          · skip
            refine SC.seqN [4] [] fun K18 hK18 => SC.region ?_
            simp -implicitDefEqProofs only [push_cast, ↓reduceIte, Nat.reduceEqDiff, Nat.reduceAdd, Nat.reduceMul, Nat.reduceSub, Nat.reduceLeDiff, Nat.reduceLT, reduceCtorEq]
            refine hK18 _ ?_
            clear hK18
            refine SC.ret ?_
            simp -implicitDefEqProofs only [push_cast, ↓reduceIte, Nat.reduceEqDiff, Nat.reduceAdd, Nat.reduceMul, Nat.reduceSub, Nat.reduceLeDiff, Nat.reduceLT, reduceCtorEq, Tryz.f19]
            have : x ≠ y := by
              rintro rfl
              rw [hgx] at hgy
              obtain rfl := Option.some.inj hgy
              exact h5 rfl
            simp [timesEq, this]
          · skip
            refine SC.skip ?_
            simp -implicitDefEqProofs only [push_cast, ↓reduceIte, Nat.reduceEqDiff, Nat.reduceAdd, Nat.reduceMul, Nat.reduceSub, Nat.reduceLeDiff, Nat.reduceLT, reduceCtorEq]
            refine hK16 _ ?_
            clear hK16
            refine SC.region ?_
            simp -implicitDefEqProofs only [push_cast, ↓reduceIte, Nat.reduceEqDiff, Nat.reduceAdd, Nat.reduceMul, Nat.reduceSub, Nat.reduceLeDiff, Nat.reduceLT, reduceCtorEq]
            refine ⟨by omega, j + 1, ⟨by omega, fun k u v hk hu hv => ?_⟩, by omega, Le.trans (Le.norm _ [0, 1, 5, 6] []) ?_⟩
            · rcases Nat.lt_succ_iff_lt_or_eq.1 hk with hk | rfl
              · exact hj.2 k u v hk hu hv
              · rw [hjx] at hu
                rw [hjy] at hv
                rw [← Option.some.inj hu, ← Option.some.inj hv]
                exact h5
            · simp -implicitDefEqProofs only [push_cast, ↓reduceIte, Nat.reduceEqDiff, Nat.reduceAdd, Nat.reduceMul, Nat.reduceSub, Nat.reduceLeDiff, Nat.reduceLT, reduceCtorEq]
              exact Le.refl _
        · skip
          have hpe : p = q := list_ext_pre hpq fun k u v hu hv => hj.2 k u v (by have := (List.getElem?_eq_some_iff.1 hu).1; omega) hu hv
          refine SC.exit ?_
          simp -implicitDefEqProofs only [push_cast, ↓reduceIte, Nat.reduceEqDiff, Nat.reduceAdd, Nat.reduceMul, Nat.reduceSub, Nat.reduceLeDiff, Nat.reduceLT, reduceCtorEq]
          refine hK9 _ ?_
          clear hK9
          refine SC.region ?_
          simp -implicitDefEqProofs only [push_cast, ↓reduceIte, Nat.reduceEqDiff, Nat.reduceAdd, Nat.reduceMul, Nat.reduceSub, Nat.reduceLeDiff, Nat.reduceLT, reduceCtorEq]
          refine ⟨by omega, i + 1, ⟨by omega, fun k l m hk hl hm => ?_⟩, by omega, Le.trans (Le.norm _ [0, 1, 5] []) ?_⟩
          · rcases Nat.lt_succ_iff_lt_or_eq.1 hk with hk | rfl
            · exact hi.2 k l m hk hl hm
            · rw [hgx] at hl
              rw [hgy] at hm
              rw [← Option.some.inj hl, ← Option.some.inj hm]
              exact hpe
          · simp -implicitDefEqProofs only [push_cast, ↓reduceIte, Nat.reduceEqDiff, Nat.reduceAdd, Nat.reduceMul, Nat.reduceSub, Nat.reduceLeDiff, Nat.reduceLT, reduceCtorEq]
            exact Le.refl _
    · skip
      refine SC.exit ?_
      simp -implicitDefEqProofs only [push_cast, ↓reduceIte, Nat.reduceEqDiff, Nat.reduceAdd, Nat.reduceMul, Nat.reduceSub, Nat.reduceLeDiff, Nat.reduceLT, reduceCtorEq]
      refine hK5 _ ?_
      clear hK5
      refine SC.seqN [4] [] fun K19 hK19 => SC.region ?_
      simp -implicitDefEqProofs only [push_cast, ↓reduceIte, Nat.reduceEqDiff, Nat.reduceAdd, Nat.reduceMul, Nat.reduceSub, Nat.reduceLeDiff, Nat.reduceLT, reduceCtorEq]
      refine hK19 _ ?_
      clear hK19
      refine SC.ret ?_
      simp -implicitDefEqProofs only [push_cast, ↓reduceIte, Nat.reduceEqDiff, Nat.reduceAdd, Nat.reduceMul, Nat.reduceSub, Nat.reduceLeDiff, Nat.reduceLT, reduceCtorEq, Tryz.f19]
      have hxe : x = y := list_ext_pre hlen fun k u v hu hv => hi.2 k u v (by have := (List.getElem?_eq_some_iff.1 hu).1; omega) hu hv
      simp [timesEq, hxe]
end Go.Proofs.YtmamodnpghlgcaaGreatDoor
/- Spread. -/

set_option linter.unusedSimpArgs false
set_option linter.unusedVariables false
set_option maxRecDepth 100000
set_option maxHeartbeats 4000000
namespace Go.Proofs.YtmamodnpghlgcaaGreatDoor
open Go.RowKit
theorem idx_ints (l : List Int) (j : Nat) : idx (List.map SV.v (ints l)) j = (l[j]?).map fun x => SV.v (.int .i64 x) := by simp [idx_eq, ints]; rfl
theorem ints_set (l : List Int) (o : Nat) (x : Int) : (ints l).set o (.int .i64 x) = ints (l.set o x) := by simp [ints, List.map_set]
def runMax (f : Nat → Int) : Nat → Int
  | 0 => f 0
  | i + 1 => max (f (i + 1)) (runMax f i)
theorem runMax_succ (f : Nat → Int) {i : Nat} (h : 0 < i) : runMax f i = max (f i) (runMax f (i - 1)) := by
  cases i with
  | zero => omega
  | succ i => rfl
theorem runMax_bd {f : Nat → Int} {n : Nat} {B : Int} (h : ∀ i, i < n → 0 ≤ f i ∧ f i ≤ B) : ∀ i, i < n → 0 ≤ runMax f i ∧ runMax f i ≤ B
  | 0, hi => h 0 hi
  | i + 1, hi => by
    have h1 := h (i + 1) hi
    have h2 := runMax_bd h i (by omega)
    simp only [runMax]
    omega
def rowOf (f : Nat → Int) (n : Nat) : List Int := (List.range n).map (runMax f)
def atL (f : Nat → Int) (i n : Nat) : List Int := (List.range n).map fun j => if j < i then runMax f j else 0
theorem atL_length (f : Nat → Int) (i n : Nat) : (atL f i n).length = n := by simp [atL]
theorem atL_get (f : Nat → Int) {i n j : Nat} (hj : j < i) (hn : j < n) : (atL f i n)[j]? = some (runMax f j) := by simp [atL, hn, hj]
theorem atL_set (f : Nat → Int) (i n : Nat) : (atL f i n).set i (runMax f i) = atL f (i + 1) n := by
  apply List.ext_getElem
  · simp [atL]
  · intro j h1 h2
    have hj : j < n := by simpa [atL] using h2
    rw [List.getElem_set]
    split
    · rename_i he; subst he; simp [atL]
    · simp only [atL, List.getElem_map, List.getElem_range]
      by_cases hji : j < i
      · rw [if_pos hji, if_pos (by omega)]
      · rw [if_neg hji, if_neg (by omega)]
theorem atL_max (f : Nat → Int) {i : Nat} (n : Nat) (h : 0 < i) : ((atL f i n).set i (f i)).set i (max (f i) (runMax f (i - 1))) = atL f (i + 1) n := by
  rw [List.set_set, ← runMax_succ f h, atL_set]
theorem atL_fst (f : Nat → Int) {i : Nat} (n : Nat) (h : ¬ 0 < i) : (atL f i n).set i (f i) = atL f (i + 1) n := by
  have : i = 0 := by omega
  subst this
  exact atL_set f 0 n
theorem atL_all (f : Nat → Int) (n : Nat) : atL f n n = rowOf f n := by
  unfold atL rowOf
  apply List.map_congr_left
  intro j hj
  rw [if_pos (List.mem_range.1 hj)]
theorem rowOf_length (f : Nat → Int) (n : Nat) : (rowOf f n).length = n := by simp [rowOf]
theorem zrep_ints (f : Nat → Int) (n : Nat) : zrep [Value.int .i64 0] n = ints (atL f 0 n) := by
  have h : ∀ n, zrep [Value.int .i64 0] n = List.replicate n (Value.int .i64 0) := by
    intro n
    induction n with
    | zero => rfl
    | succ n ih => simp only [zrep, ih, List.replicate_succ]; rfl
  rw [h]
  apply List.ext_getElem
  · simp [ints, atL]
  · intro i h1 h2
    simp [ints, atL]
theorem zrep_nils (n : Nat) : zrep [Value.slice none 0 0] n = List.replicate n (Value.slice none 0 0) := by
  induction n with
  | zero => rfl
  | succ n ih => simp only [zrep, ih, List.replicate_succ]; rfl
/-- What lies in out, when some of its rows are there. -/
def outXs (aa : Nat → Option Addr) (cc : Nat → Nat) (outs : List (List Int)) (n : Nat) : List Value := slcs aa cc outs ++ List.replicate (n - outs.length) (.slice none 0 0)
theorem outXs_length {aa : Nat → Option Addr} {cc : Nat → Nat} {outs : List (List Int)} {n : Nat} (h : outs.length ≤ n) : (outXs aa cc outs n).length = n := by
  simp only [outXs, List.length_append, slcs_length, List.length_replicate]; omega
theorem outXs_get {aa : Nat → Option Addr} {cc : Nat → Nat} {outs : List (List Int)} {n i : Nat} {l : List Int} (h : outs[i]? = some l) : (outXs aa cc outs n)[i]? = some (.slice (aa i) l.length (cc i)) := by
  have hi := (List.getElem?_eq_some_iff.1 h).1
  unfold outXs
  rw [List.getElem?_append_left (by rw [slcs_length]; exact hi)]
  exact slcs_get h
theorem outXs_set {aa aa' : Nat → Option Addr} {cc cc' : Nat → Nat} {outs : List (List Int)} {row : List Int} {n m : Nat} {a : Option Addr} {c : Nat} (hn : outs.length < n) (h : ∀ i, i < outs.length → aa' i = aa i ∧ cc' i = cc i) (ha : aa' outs.length = a) (hc : cc' outs.length = c) (hm : row.length = m) :
    (outXs aa cc outs n).set outs.length (.slice a m c) = outXs aa' cc' (outs ++ [row]) n := by
  have h1 : slcs aa' cc' (outs ++ [row]) = slcs aa cc outs ++ [.slice a m c] := by
    unfold slcs
    rw [List.mapIdx_append]
    congr 1
    · apply List.ext_getElem
      · simp
      · intro i h1 h2
        have hi : i < outs.length := by simpa using h1
        simp [h i hi]
    · simp [ha, hc, hm]
  have h2 : n - outs.length = (n - (outs ++ [row]).length) + 1 := by simp; omega
  unfold outXs
  rw [h1, h2, List.set_append_right _ _ (by rw [slcs_length]; exact Nat.le_refl _), slcs_length, Nat.sub_self, List.replicate_succ, List.set_cons_zero, List.append_assoc]
  rfl
theorem idx_vals (xs : List Value) (j : Nat) : idx (List.map SV.v xs) j = (xs[j]?).map SV.v := by simp [idx_eq]
theorem outXs_all {aa : Nat → Option Addr} {cc : Nat → Nat} {outs : List (List Int)} {n : Nat} (h : outs.length = n) : outXs aa cc outs n = slcs aa cc outs := by simp [outXs, h]
def badTop (l : List Seg) (ps : List Int) (ds : List (List Int)) : Bool := !streamB l || (decide (ps.length < 1) || (decide (100 < ps.length) || decide (ds.length ≠ ps.length)))
def bigD (x : Int) : Bool := decide (x < 0) || decide (1099511627776 < x)
theorem spread3_fn (x : Int) (F : Fact) : Fn Tryz.prog 62 [.int .i64 x] F fun v _ => v = .bool (bigD x) := by
  refine Fn.of_body Tryz.func62 rfl (Nat.le_of_ble_eq_true rfl) (Nat.le_of_ble_eq_true rfl) (by kernel_rfl) ?_
  refine SC.seqN [0] [] fun K1 hK1 => SC.region ?_
  simp -implicitDefEqProofs only [push_cast, ↓reduceIte, Nat.reduceEqDiff, Nat.reduceAdd, Nat.reduceMul, Nat.reduceSub, Nat.reduceLeDiff, Nat.reduceLT, reduceCtorEq]
  refine hK1 _ ?_
  clear hK1
  refine SC.seqN [2] [] fun K2 hK2 => SC.region ?_
  simp -implicitDefEqProofs only [push_cast, ↓reduceIte, Nat.reduceEqDiff, Nat.reduceAdd, Nat.reduceMul, Nat.reduceSub, Nat.reduceLeDiff, Nat.reduceLT, reduceCtorEq]
  suffices key2 : ∀ b, b = bigD x → K2 ⟨[(2, .v (.bool b))], [], F⟩ by
    clear hK2
    refine ⟨fun h => ?_, fun h => ?_⟩
    all_goals exact key2 _ (by simp [bigD, *])
  intro b hb
  subst hb
  refine hK2 _ ?_
  clear hK2
  refine SC.ret ?_
  simp -implicitDefEqProofs only [push_cast, ↓reduceIte, Nat.reduceEqDiff, Nat.reduceAdd, Nat.reduceMul, Nat.reduceSub, Nat.reduceLeDiff, Nat.reduceLT, reduceCtorEq, Tryz.f62]
def getD2 (rs : List (List Int)) (p i : Nat) : Int := (rs.getD p []).getD i 0
def delayA (rs : List (List Int)) (ps : List Int) (ds : List (List Int)) (k i : Nat) : Int := getD2 rs (ps.getD k 0).toNat i + getD2 ds k i
def badK (ps : List Int) (ds : List (List Int)) (n k : Nat) : Bool := match ps[k]?, ds[k]? with
  | some p, some d => decide (p < 0) || (decide ((k : Int) ≤ p) || (decide (d.length ≠ n) || d.any bigD))
  | _, _ => false
def finA (l : List Seg) (i : Nat) : Int := match l[i]? with | some s => s.fin | none => 0
theorem spread2_fn (l : List Seg) (a : Option Addr) (c b i : Nat) (F : Fact) (hF : F.to (rowF a (segsC l))) (hb : F.to (cellsF b 0 [.slice a l.length c])) (hi : i < l.length) (hs : ∀ s ∈ l, s.Ok) : Fn Tryz.prog 59 [.int .i64 i, .pointer (some ⟨b, 0, none⟩)] F fun v _ => v = .int .i64 (finA l i) := by
  have hg : l[i]? = some l[i] := List.getElem?_eq_getElem hi
  have hk := hs _ (List.getElem_mem hi)
  refine Fn.of_body Tryz.func59 rfl (Nat.le_of_ble_eq_true rfl) (Nat.le_of_ble_eq_true rfl) (by kernel_rfl) ?_
  refine SC.seqN [0, 1] [] fun K1 hK1 => SC.region ?_
  simp -implicitDefEqProofs only [push_cast, ↓reduceIte, Nat.reduceEqDiff, Nat.reduceAdd, Nat.reduceMul, Nat.reduceSub, Nat.reduceLeDiff, Nat.reduceLT, reduceCtorEq]
  refine hK1 _ ?_
  clear hK1
  refine SC.seqN [3] [] fun K2 hK2 => SC.region ?_
  simp -implicitDefEqProofs only [push_cast, ↓reduceIte, Nat.reduceEqDiff, Nat.reduceAdd, Nat.reduceMul, Nat.reduceSub, Nat.reduceLeDiff, Nat.reduceLT, reduceCtorEq]
  refine loadAt hb ?_
  simp -implicitDefEqProofs only [push_cast, ↓reduceIte, Nat.reduceEqDiff, Nat.reduceAdd, Nat.reduceMul, Nat.reduceSub, Nat.reduceLeDiff, Nat.reduceLT, reduceCtorEq]
  refine ⟨by omega, rowF_some hF (segsC_ne (by omega)), loadSeg i hF hg rfl rfl ?_⟩
  simp -implicitDefEqProofs only [push_cast, ↓reduceIte, Nat.reduceEqDiff, Nat.reduceAdd, Nat.reduceMul, Nat.reduceSub, Nat.reduceLeDiff, Nat.reduceLT, reduceCtorEq]
  refine callL_fn0 (end_fn l[i] (by unfold Seg.Ok at hk; omega) F) rfl (fun _ h => h) fun v G hv => ?_
  subst hv
  simp -implicitDefEqProofs only [push_cast, ↓reduceIte, Nat.reduceEqDiff, Nat.reduceAdd, Nat.reduceMul, Nat.reduceSub, Nat.reduceLeDiff, Nat.reduceLT, reduceCtorEq]
  refine hK2 _ ?_
  clear hK2
  refine SC.ret ?_
  simp -implicitDefEqProofs only [push_cast, ↓reduceIte, Nat.reduceEqDiff, Nat.reduceAdd, Nat.reduceMul, Nat.reduceSub, Nat.reduceLeDiff, Nat.reduceLT, reduceCtorEq, Tryz.f59]
  simp only [finA, hg]
def spreadRows (l : List Seg) (ps : List Int) (ds : List (List Int)) : Nat → List (List Int)
  | 0 => []
  | k + 1 => spreadRows l ps ds k ++ [rowOf (if k = 0 then finA l else delayA (spreadRows l ps ds k) ps ds k) l.length]
theorem spreadRows_length (l : List Seg) (ps : List Int) (ds : List (List Int)) : ∀ k, (spreadRows l ps ds k).length = k
  | 0 => rfl
  | k + 1 => by simp [spreadRows, spreadRows_length l ps ds k]
theorem spreadRows_row {l : List Seg} {ps : List Int} {ds : List (List Int)} : ∀ {k i : Nat}, i < k → ∃ f, (spreadRows l ps ds k)[i]? = some (rowOf f l.length)
  | k + 1, i, h => by
    by_cases hi : i < k
    · obtain ⟨f, hf⟩ := spreadRows_row (l := l) (ps := ps) (ds := ds) hi
      refine ⟨f, ?_⟩
      simp only [spreadRows]
      rw [List.getElem?_append_left (by rw [spreadRows_length]; exact hi)]; exact hf
    · have : i = k := by omega
      subst this
      refine ⟨if i = 0 then finA l else delayA (spreadRows l ps ds i) ps ds i, ?_⟩
      simp only [spreadRows]
      rw [List.getElem?_append_right (by rw [spreadRows_length]; exact Nat.le_refl _), spreadRows_length, Nat.sub_self]; rfl
def upA {A : Type} (f : Nat → A) (k : Nat) (x : A) : Nat → A := fun i => if i = k then x else f i
theorem upA_same {A : Type} (f : Nat → A) (k : Nat) (x : A) : upA f k x k = x := if_pos rfl
theorem upA_ne {A : Type} {f : Nat → A} {k : Nat} {x : A} {i : Nat} (h : i ≠ k) : upA f k x i = f i := if_neg h
def rowsBd (outs : List (List Int)) : Prop := ∀ (j : Nat) (row : List Int) (x : Int), outs[j]? = some row → x ∈ row → 0 ≤ x ∧ x ≤ 1100000000000 * ((j : Int) + 1)
def spreadBad (l : List Seg) (ps : List Int) (ds : List (List Int)) : Bool := badTop l ps ds || (List.range ps.length).any fun k => decide (1 ≤ k) && badK ps ds l.length k
def spreadR (l : List Seg) (ps : List Int) (ds : List (List Int)) : List (List Int) := if spreadBad l ps ds then [] else spreadRows l ps ds ps.length
def spreadE (l : List Seg) (ps : List Int) (ds : List (List Int)) : Int := if spreadBad l ps ds then 1 else 0
theorem isIntss_nil (F : Fact) : isIntss [] F (.slice none 0 0) := ⟨none, 0, fun _ => none, fun _ => 0, rfl, Nat.le_refl _, rowF_nil _ _, fun i l h => by simp at h⟩
theorem callL_c2 {P : Program} {f : FuncId} {x : SV} {g : Go.Fn} {st : St} {k : SV → St → Prop} {Qp : Value → St → Prop} (h : callL P f [x, .v (.func g #[] #[])] st k Qp) : callL P f [x, .clo g []] st k Qp := by
  refine ⟨fun cx e s a w vs hs hl => h.run cx e s a w vs hs ?_⟩
  simp only [SV.isL, SV.is] at hl ⊢
  obtain ⟨y, ys', h1, h2, y2, ys2, h3, ⟨zs, h4, h5⟩, h6⟩ := hl
  have hz : zs = #[] := by apply Array.ext'; simpa using h5
  exact ⟨y, ys', h1, h2, y2, ys2, h3, by rw [h4, hz], h6⟩
theorem stream_fin {l : List Seg} (h : streamB l = true) : ∀ i, i < l.length → 0 ≤ finA l i ∧ finA l i ≤ 1100000000000 := by
  intro i hi
  simp only [streamB, Bool.and_eq_true, List.all_eq_true, List.mem_range] at h
  have hr := okB_get hi (h.1 i hi)
  simp only [rightB, Bool.and_eq_true, decide_eq_true_eq] at hr
  simp only [finA, List.getElem?_eq_getElem hi, Seg.fin]
  omega
theorem stream_ok {l : List Seg} (h : streamB l = true) : ∀ s ∈ l, s.Ok := by
  intro s hs
  obtain ⟨i, hi, rfl⟩ := List.getElem_of_mem hs
  simp only [streamB, Bool.and_eq_true, List.all_eq_true, List.mem_range] at h
  have hr := okB_get hi (h.1 i hi)
  simp only [rightB, Bool.and_eq_true, decide_eq_true_eq] at hr
  unfold Seg.Ok
  omega
structure SprI where
  outs : List (List Int)
  aa : Nat → Option Addr
  cc : Nat → Nat
  F : Fact

theorem spread_fn (l : List Seg) (ps : List Int) (ds : List (List Int)) (vL vP vD : Value) (F : Fact) (a : Option Addr) (c : Nat) (hvL : vL = .slice a l.length c) (hc : l.length ≤ c) (hF : F.to (rowF a (segsC l))) (hP : isInts ps F vP) (hD : isIntss ds F vD) (hll : l.length ≤ 100000) (hpl : ps.length ≤ 100000) (hdl : ds.length ≤ 100000) (hrd : ∀ d ∈ ds, d.length ≤ 100000) :
    Fn Tryz.prog 17 [vL, vP, vD] F fun v G => ∃ ov, v = .tuple #[ov, .int .i64 (spreadE l ps ds)] ∧ isIntss (spreadR l ps ds) G ov := by
  subst hvL
  obtain ⟨aP, cP, rfl, hcP, hFP⟩ := hP
  obtain ⟨aD, cD, aa0, cc0, rfl, hcD, hFD, hRD⟩ := hD
  refine Fn.of_body Tryz.func17 rfl (Nat.le_of_ble_eq_true rfl) (Nat.le_of_ble_eq_true rfl) (by kernel_rfl) ?_
  refine SC.seqN [1, 3, 5] [.l 3, .l 5, .l 34, .l 8, .l 10, .l 11] fun K1 hK1 => SC.region ?_
  simp -implicitDefEqProofs only [push_cast, ↓reduceIte, Nat.reduceEqDiff, Nat.reduceAdd, Nat.reduceMul, Nat.reduceSub, Nat.reduceLeDiff, Nat.reduceLT, reduceCtorEq]
  refine hK1 _ ?_
  clear hK1
  refine SC.frzB (k := .l 3) rfl rfl fun b3 r3 => ?_
  simp -implicitDefEqProofs only [push_cast, ↓reduceIte, Nat.reduceEqDiff, Nat.reduceAdd, Nat.reduceMul, Nat.reduceSub, Nat.reduceLeDiff, Nat.reduceLT, reduceCtorEq]
  refine SC.frzB (k := .l 5) rfl rfl fun b5 r5 => ?_
  simp -implicitDefEqProofs only [push_cast, ↓reduceIte, Nat.reduceEqDiff, Nat.reduceAdd, Nat.reduceMul, Nat.reduceSub, Nat.reduceLeDiff, Nat.reduceLT, reduceCtorEq]
  obtain ⟨F1, hF1⟩ : ∃ F1, F1 = (F.and (cellsF b3 0 [.slice a l.length c])).and (cellsF b5 0 [.slice aD ds.length cD]) := ⟨_, rfl⟩
  have hto : F1.to F := by rw [hF1]; exact Fact.to_left (Fact.to_left (Fact.to_refl _))
  have hb3 : F1.to (cellsF b3 0 [.slice a l.length c]) := by rw [hF1]; exact Fact.to_left (Fact.to_right (Fact.to_refl _))
  have hb5 : F1.to (cellsF b5 0 [.slice aD ds.length cD]) := by rw [hF1]; exact Fact.to_right (Fact.to_refl _)
  have hFl : F1.to (rowF a (segsC l)) := Fact.to_trans hto hF
  rw [← hF1]
  refine SC.seqN [1, 3, 5] [.l 3, .l 5, .l 34, .l 8, .l 10, .l 11] fun K2 hK2 => ?_
  refine SC.seqN [1, 3, 5, 31] [.l 3, .l 5, .l 34, .l 8, .l 10, .l 11] fun K3 hK3 => SC.region ?_
  simp -implicitDefEqProofs only [push_cast, ↓reduceIte, Nat.reduceEqDiff, Nat.reduceAdd, Nat.reduceMul, Nat.reduceSub, Nat.reduceLeDiff, Nat.reduceLT, reduceCtorEq]
  suffices key3 : ∀ b, b = badTop l ps ds → K3 ⟨[(1, .v (.slice aP ps.length cP)), (3, .v (.pointer (some ⟨b3, 0, none⟩))), (5, .v (.pointer (some ⟨b5, 0, none⟩))), (31, .v (.bool b))], [], F1⟩ by
    clear hK2 hK3
    refine loadAt hb3 ?_
    simp -implicitDefEqProofs only [push_cast, ↓reduceIte, Nat.reduceEqDiff, Nat.reduceAdd, Nat.reduceMul, Nat.reduceSub, Nat.reduceLeDiff, Nat.reduceLT, reduceCtorEq]
    refine callL_fn0 (stream_fn l a c F1 hFl (by omega)) rfl (fun _ h => h) fun v G hv => ?_
    subst hv
    simp -implicitDefEqProofs only [push_cast, ↓reduceIte, Nat.reduceEqDiff, Nat.reduceAdd, Nat.reduceMul, Nat.reduceSub, Nat.reduceLeDiff, Nat.reduceLT, reduceCtorEq]
    cases hS : streamB l
    all_goals simp -implicitDefEqProofs only [push_cast, ↓reduceIte, Nat.reduceEqDiff, Nat.reduceAdd, Nat.reduceMul, Nat.reduceSub, Nat.reduceLeDiff, Nat.reduceLT, reduceCtorEq]
    repeat' (first
      | (with_reducible refine loadAt hb5 ?_
         simp -implicitDefEqProofs only [push_cast, ↓reduceIte, Nat.reduceEqDiff, Nat.reduceAdd, Nat.reduceMul, Nat.reduceSub, Nat.reduceLeDiff, Nat.reduceLT, reduceCtorEq])
      | (with_reducible refine And.intro (by omega) ?_)
      | (with_reducible refine And.intro ?_ ?_)
      | intro h
      | exact rfl)
    all_goals (refine key3 _ ?_; clear key3; first | (exact absurd ‹false = true› (by decide)) | (exact absurd ‹true = false› (by decide)) | (rw [Bool.eq_iff_iff]; simp only [badTop, hS, Bool.not_true, Bool.not_false, Bool.false_or, Bool.true_or, Bool.or_eq_true, decide_eq_true_eq, true_iff, ne_eq]; omega) | (simp [badTop, hS]; done) | (simp_all [badTop]; done) | (simp_all [badTop]; omega))
  intro b hb
  subst hb
  refine hK3 _ ?_
  clear hK3
  refine SC.cond ?_
  simp -implicitDefEqProofs only [push_cast, ↓reduceIte, Nat.reduceEqDiff, Nat.reduceAdd, Nat.reduceMul, Nat.reduceSub, Nat.reduceLeDiff, Nat.reduceLT, reduceCtorEq]
  refine ⟨fun h1 => ?_, fun h1 => ?_⟩
  · skip
    refine SC.seqN [6, 7] [.l 3, .l 5, .l 34, .l 8, .l 10, .l 11] fun K4 hK4 => SC.region ?_
    simp -implicitDefEqProofs only [push_cast, ↓reduceIte, Nat.reduceEqDiff, Nat.reduceAdd, Nat.reduceMul, Nat.reduceSub, Nat.reduceLeDiff, Nat.reduceLT, reduceCtorEq]
    refine hK4 _ ?_
    clear hK4
    refine SC.ret ?_
    simp -implicitDefEqProofs only [push_cast, ↓reduceIte, Nat.reduceEqDiff, Nat.reduceAdd, Nat.reduceMul, Nat.reduceSub, Nat.reduceLeDiff, Nat.reduceLT, reduceCtorEq, Tryz.f17]
    have hb : spreadBad l ps ds = true := by simp [spreadBad, h1]
    exact ⟨_, by rw [spreadE, if_pos hb], by rw [spreadR, if_pos hb]; exact isIntss_nil _⟩
  · skip
    have hbt := h1
    simp only [badTop, Bool.or_eq_false_iff, decide_eq_false_iff_not, Bool.not_eq_false', Classical.not_not] at hbt
    obtain ⟨hst0, hp1, hp2, hdl2⟩ := hbt
    have hs := stream_ok hst0
    have hfin := stream_fin hst0
    refine SC.skip ?_
    simp -implicitDefEqProofs only [push_cast, ↓reduceIte, Nat.reduceEqDiff, Nat.reduceAdd, Nat.reduceMul, Nat.reduceSub, Nat.reduceLeDiff, Nat.reduceLT, reduceCtorEq]
    refine hK2 _ ?_
    clear hK2
    refine SC.seqN [1, 3, 5, 8] [.l 3, .l 5, .l 34, .l 8, .l 10, .l 11] fun K5 hK5 => SC.region ?_
    simp -implicitDefEqProofs only [push_cast, ↓reduceIte, Nat.reduceEqDiff, Nat.reduceAdd, Nat.reduceMul, Nat.reduceSub, Nat.reduceLeDiff, Nat.reduceLT, reduceCtorEq]
    refine ⟨⟨by omega, by rw [mxl]; omega, by omega⟩, ?_⟩
    simp only [Int.toNat_natCast, zrep_nils]
    rw [show List.replicate ps.length (Value.slice none 0 0) = outXs (fun _ => none) (fun _ => 0) [] ps.length by simp [outXs, slcs]]
    refine hK5 _ ?_
    clear hK5
    refine SC.seqN [1, 3, 5, 8, 9] [.l 3, .l 5, .l 34, .l 8, .l 10, .l 11] fun K6 hK6 => SC.region ?_
    simp -implicitDefEqProofs only [push_cast, ↓reduceIte, Nat.reduceEqDiff, Nat.reduceAdd, Nat.reduceMul, Nat.reduceSub, Nat.reduceLeDiff, Nat.reduceLT, reduceCtorEq]
    refine hK6 _ ?_
    clear hK6
    refine SC.seqN [1, 3, 5, 8, 9] [.l 3, .l 5, .l 34, .l 8, .l 10, .l 11] fun K7 hK7 => SC.region ?_
    simp -implicitDefEqProofs only [push_cast, ↓reduceIte, Nat.reduceEqDiff, Nat.reduceAdd, Nat.reduceMul, Nat.reduceSub, Nat.reduceLeDiff, Nat.reduceLT, reduceCtorEq]
    suffices key7 : ∀ (aN : Option Addr) (cN : Nat) (F2 : Fact), F2.to F1 → l.length ≤ cN → F2.to (rowF aN (ints (rowOf (finA l) l.length))) → K7 ⟨[(1, .v (.slice aP ps.length cP)), (3, .v (.pointer (some ⟨b3, 0, none⟩))), (5, .v (.pointer (some ⟨b5, 0, none⟩))), (8, .own (.l 8) 0), (9, .clo (.func 58) [.v (.pointer (some ⟨b3, 0, none⟩)), .own (.l 8) 0])], [(.l 34, .row 43 1 ps.length (outXs (fun _ => aN) (fun _ => cN) [rowOf (finA l) l.length] ps.length)), (.l 8, .box [.row (.l 34)] 44)], F2⟩ by
      clear hK7
      refine callL_in Tryz.func58 rfl (Nat.le_of_ble_eq_true rfl) (Nat.le_of_ble_eq_true rfl) (by kernel_rfl) ?_
      simp -implicitDefEqProofs only [push_cast, ↓reduceIte, Nat.reduceEqDiff, Nat.reduceAdd, Nat.reduceMul, Nat.reduceSub, Nat.reduceLeDiff, Nat.reduceLT, reduceCtorEq]
      refine SC.seqN [0, 1, 2, 3, 6, 1000001, 1000003, 1000005, 1000008, 1000009] [.l 10, .l 34, .l 8] fun K1A1 hK1A1 => SC.region ?_
      simp -implicitDefEqProofs only [push_cast, ↓reduceIte, Nat.reduceEqDiff, Nat.reduceAdd, Nat.reduceMul, Nat.reduceSub, Nat.reduceLeDiff, Nat.reduceLT, reduceCtorEq]
      refine loadAt hb3 ?_
      simp -implicitDefEqProofs only [push_cast, ↓reduceIte, Nat.reduceEqDiff, Nat.reduceAdd, Nat.reduceMul, Nat.reduceSub, Nat.reduceLeDiff, Nat.reduceLT, reduceCtorEq]
      refine ⟨⟨by omega, by rw [mxl]; omega, by omega⟩, ?_⟩
      simp only [Int.toNat_natCast, zrep_ints (finA l)]
      refine hK1A1 _ ?_
      clear hK1A1
      refine SC.seqN [0, 3, 6, 1000001, 1000003, 1000005, 1000008, 1000009] [.l 10, .l 34, .l 8] fun K2A1 hK2A1 => ?_
      refine SC.seqN [0, 1, 3, 6, 12, 13, 1000001, 1000003, 1000005, 1000008, 1000009] [.l 10, .l 34, .l 8] fun K3A1 hK3A1 => SC.region ?_
      simp -implicitDefEqProofs only [push_cast, ↓reduceIte, Nat.reduceEqDiff, Nat.reduceAdd, Nat.reduceMul, Nat.reduceSub, Nat.reduceLeDiff, Nat.reduceLT, reduceCtorEq]
      refine loadAt hb3 ?_
      simp -implicitDefEqProofs only [push_cast, ↓reduceIte, Nat.reduceEqDiff, Nat.reduceAdd, Nat.reduceMul, Nat.reduceSub, Nat.reduceLeDiff, Nat.reduceLT, reduceCtorEq]
      refine hK3A1 _ ?_
      clear hK3A1
      refine SC.block ?_
      refine SC.loop (fun i : Nat => ⟨[(0, .v (.int .i64 0)), (1, .v (.func (.func 59) #[] #[.pointer (some ⟨b3, 0, none⟩)])), (3, .own (.l 8) 0), (6, .row (.l 10)), (12, .v (.int .i64 l.length)), (13, .v (.int .i64 i)), (1000001, .v (.slice aP ps.length cP)), (1000003, .v (.pointer (some ⟨b3, 0, none⟩))), (1000005, .v (.pointer (some ⟨b5, 0, none⟩))), (1000008, .own (.l 8) 0), (1000009, .clo (.func 58) [.v (.pointer (some ⟨b3, 0, none⟩)), .own (.l 8) 0])], [(.l 10, .row 3 1 l.length (ints (atL (finA l) i l.length))), (.l 34, .row 43 1 ps.length (outXs (fun _ => none) (fun _ => 0) [] ps.length)), (.l 8, .box [.row (.l 34)] 44)], F1⟩) (fun i => i ≤ l.length) (fun i => l.length - i) 0 (Le.refl _) (Nat.zero_le _) fun i hi => ?_
      refine SC.seqN [0, 1, 3, 6, 12, 13, 14, 1000001, 1000003, 1000005, 1000008, 1000009] [.l 10, .l 34, .l 8] fun K4A1 hK4A1 => SC.region ?_
      simp -implicitDefEqProofs only [push_cast, ↓reduceIte, Nat.reduceEqDiff, Nat.reduceAdd, Nat.reduceMul, Nat.reduceSub, Nat.reduceLeDiff, Nat.reduceLT, reduceCtorEq]
      refine hK4A1 _ ?_
      clear hK4A1
      refine SC.seqN [0, 1, 3, 6, 12, 13, 1000001, 1000003, 1000005, 1000008, 1000009] [.l 10, .l 34, .l 8] fun K5A1 hK5A1 => ?_
      refine SC.cond ?_
      simp -implicitDefEqProofs only [push_cast, ↓reduceIte, Nat.reduceEqDiff, Nat.reduceAdd, Nat.reduceMul, Nat.reduceSub, Nat.reduceLeDiff, Nat.reduceLT, reduceCtorEq]
      refine ⟨fun h1A1 => ?_, fun h1A1 => ?_⟩
      · skip
        have hil : i < l.length := by omega
        have hgl : l[i]? = some l[i] := List.getElem?_eq_getElem hil
        have hal := atL_length (finA l) i l.length
        refine SC.skip ?_
        simp -implicitDefEqProofs only [push_cast, ↓reduceIte, Nat.reduceEqDiff, Nat.reduceAdd, Nat.reduceMul, Nat.reduceSub, Nat.reduceLeDiff, Nat.reduceLT, reduceCtorEq]
        refine hK5A1 _ ?_
        clear hK5A1
        refine SC.seqN [0, 1, 3, 6, 12, 13, 1000001, 1000003, 1000005, 1000008, 1000009] [.l 10, .l 34, .l 8] fun K6A1 hK6A1 => ?_
        refine SC.block ?_
        refine SC.seqN [0, 1, 3, 6, 7, 12, 13, 1000001, 1000003, 1000005, 1000008, 1000009] [.l 10, .l 34, .l 8] fun K7A1 hK7A1 => SC.region ?_
        simp -implicitDefEqProofs only [push_cast, ↓reduceIte, Nat.reduceEqDiff, Nat.reduceAdd, Nat.reduceMul, Nat.reduceSub, Nat.reduceLeDiff, Nat.reduceLT, reduceCtorEq]
        refine hK7A1 _ ?_
        clear hK7A1
        refine SC.seqN [0, 1, 3, 6, 7, 12, 13, 1000001, 1000003, 1000005, 1000008, 1000009] [.l 10, .l 34, .l 8] fun K8A1 hK8A1 => SC.region ?_
        simp -implicitDefEqProofs only [push_cast, ↓reduceIte, Nat.reduceEqDiff, Nat.reduceAdd, Nat.reduceMul, Nat.reduceSub, Nat.reduceLeDiff, Nat.reduceLT, reduceCtorEq]
        refine callL_fn0 (spread2_fn l a c b3 i F1 hFl hb3 hil hs) rfl (fun _ h => h) fun v G hv => ?_
        subst hv
        simp -implicitDefEqProofs only [push_cast, ↓reduceIte, Nat.reduceEqDiff, Nat.reduceAdd, Nat.reduceMul, Nat.reduceSub, Nat.reduceLeDiff, Nat.reduceLT, reduceCtorEq]
        refine ⟨by omega, by rw [ints_length, hal]; omega, ?_⟩
        simp only [Int.toNat_natCast, Nat.mul_one, ints_set]
        refine hK8A1 _ ?_
        clear hK8A1
        refine SC.seqN [0, 1, 3, 6, 7, 12, 13, 23, 1000001, 1000003, 1000005, 1000008, 1000009] [.l 10, .l 34, .l 8] fun K9A1 hK9A1 => SC.region ?_
        simp -implicitDefEqProofs only [push_cast, ↓reduceIte, Nat.reduceEqDiff, Nat.reduceAdd, Nat.reduceMul, Nat.reduceSub, Nat.reduceLeDiff, Nat.reduceLT, reduceCtorEq]
        refine hK9A1 _ ?_
        clear hK9A1
        refine SC.cond ?_
        simp -implicitDefEqProofs only [push_cast, ↓reduceIte, Nat.reduceEqDiff, Nat.reduceAdd, Nat.reduceMul, Nat.reduceSub, Nat.reduceLeDiff, Nat.reduceLT, reduceCtorEq]
        refine ⟨fun h2A1 => ?_, fun h2A1 => ?_⟩
        · skip
          have h0 : 0 < i := by omega
          refine SC.drawnP (.take 0 (.take 1 (.take 2 (.take 3 (.take 4 (.take 6 (.take 7 (.take 8 (.take 9 (.load 5 (.load 10 (.take 11 (.take 12 (.fork 13 (.done) (.stop))))))))))))))) (by kernel_rfl) (by kernel_rfl) (fun _ _ h => h) ?_
          simp -implicitDefEqProofs only [push_cast, ↓reduceIte, Nat.reduceEqDiff, Nat.reduceAdd, Nat.reduceMul, Nat.reduceSub, Nat.reduceLeDiff, Nat.reduceLT, reduceCtorEq]
          have hg1 : ((atL (finA l) i l.length).set i ((finA l) i))[i]? = some ((finA l) i) := by rw [List.getElem?_set_self (by rw [hal]; omega)]
          have hg2 : ((atL (finA l) i l.length).set i ((finA l) i))[i - 1]? = some (runMax (finA l) (i - 1)) := by rw [List.getElem?_set_ne (by omega)]; exact atL_get _ (by omega) (by omega)
          have ht1 : (((i : Int)) - 1).toNat = i - 1 := by omega
          refine ⟨by omega, by omega, by omega, ?_⟩
          simp only [Int.toNat_natCast, Nat.mul_one, ht1, idx_ints, hg1, hg2, push_cast, ↓reduceIte, Nat.reduceEqDiff, Nat.reduceAdd, Nat.reduceMul, Nat.reduceSub, Nat.reduceLeDiff, Nat.reduceLT, reduceCtorEq]
          refine ⟨by omega, by rw [ints_length, List.length_set, hal]; omega, ?_⟩
          simp only [ints_set]
          refine hK6A1 _ ?_
          clear hK6A1
          refine SC.region ?_
          simp -implicitDefEqProofs only [push_cast, ↓reduceIte, Nat.reduceEqDiff, Nat.reduceAdd, Nat.reduceMul, Nat.reduceSub, Nat.reduceLeDiff, Nat.reduceLT, reduceCtorEq]
          refine ⟨by omega, i + 1, by omega, by omega, Le.trans (Le.norm _ [0, 1, 3, 6, 12, 13, 1000001, 1000003, 1000005, 1000008, 1000009] [.l 10, .l 34, .l 8]) ?_⟩
          simp -implicitDefEqProofs only [push_cast, ↓reduceIte, Nat.reduceEqDiff, Nat.reduceAdd, Nat.reduceMul, Nat.reduceSub, Nat.reduceLeDiff, Nat.reduceLT, reduceCtorEq]
          first
            | (rw [atL_max (finA l) l.length h0]
               exact Le.refl _)
            | (rw [atL_fst (finA l) l.length (by omega)]
               exact Le.refl _)
        · skip
          refine SC.skip ?_
          simp -implicitDefEqProofs only [push_cast, ↓reduceIte, Nat.reduceEqDiff, Nat.reduceAdd, Nat.reduceMul, Nat.reduceSub, Nat.reduceLeDiff, Nat.reduceLT, reduceCtorEq]
          refine hK6A1 _ ?_
          clear hK6A1
          refine SC.region ?_
          simp -implicitDefEqProofs only [push_cast, ↓reduceIte, Nat.reduceEqDiff, Nat.reduceAdd, Nat.reduceMul, Nat.reduceSub, Nat.reduceLeDiff, Nat.reduceLT, reduceCtorEq]
          refine ⟨by omega, i + 1, by omega, by omega, Le.trans (Le.norm _ [0, 1, 3, 6, 12, 13, 1000001, 1000003, 1000005, 1000008, 1000009] [.l 10, .l 34, .l 8]) ?_⟩
          simp -implicitDefEqProofs only [push_cast, ↓reduceIte, Nat.reduceEqDiff, Nat.reduceAdd, Nat.reduceMul, Nat.reduceSub, Nat.reduceLeDiff, Nat.reduceLT, reduceCtorEq]
          first
            | (rw [atL_max (finA l) l.length h0]
               exact Le.refl _)
            | (rw [atL_fst (finA l) l.length (by omega)]
               exact Le.refl _)
      · skip
        have hi2 : i = l.length := by omega
        subst hi2
        refine SC.exit ?_
        simp -implicitDefEqProofs only [push_cast, ↓reduceIte, Nat.reduceEqDiff, Nat.reduceAdd, Nat.reduceMul, Nat.reduceSub, Nat.reduceLeDiff, Nat.reduceLT, reduceCtorEq]
        refine hK2A1 _ ?_
        clear hK2A1
        refine SC.frzRow (k := .l 10) rfl (by rw [ints_length, atL_length]; omega) fun aN bN cN hcN => ?_
        simp -implicitDefEqProofs only [push_cast, ↓reduceIte, Nat.reduceEqDiff, Nat.reduceAdd, Nat.reduceMul, Nat.reduceSub, Nat.reduceLeDiff, Nat.reduceLT, reduceCtorEq]
        refine SC.region ?_
        simp -implicitDefEqProofs only [push_cast, ↓reduceIte, Nat.reduceEqDiff, Nat.reduceAdd, Nat.reduceMul, Nat.reduceSub, Nat.reduceLeDiff, Nat.reduceLT, reduceCtorEq]
        have hst : (outXs (fun _ => none) (fun _ => 0) [] ps.length).set (Int.toNat 0 * 1) (.slice aN l.length cN) = outXs (fun _ => aN) (fun _ => cN) [rowOf (finA l) l.length] ps.length := outXs_set (outs := []) (by simp; omega) (fun i hi => absurd hi (by simp)) rfl rfl (rowOf_length _ _)
        refine ⟨by omega, by rw [outXs_length (by simp)]; omega, ?_⟩
        simp -implicitDefEqProofs only [push_cast, ↓reduceIte, Nat.reduceEqDiff, Nat.reduceAdd, Nat.reduceMul, Nat.reduceSub, Nat.reduceLeDiff, Nat.reduceLT, reduceCtorEq, Tryz.f58, hst, atL_all]
        exact key7 aN cN _ (Fact.to_left (Fact.to_refl _)) hcN (Fact.to_right (Fact.to_refl _))
        -- END
    intro aN cN F2 hto2 hcN hrN
    refine hK7 _ ?_
    clear hK7
    refine SC.seqN [8] [.l 3, .l 5, .l 34, .l 8, .l 10, .l 11] fun K8 hK8 => ?_
    refine SC.seqN [1, 3, 5, 8, 9, 10] [.l 3, .l 5, .l 34, .l 8, .l 10, .l 11] fun K9 hK9 => SC.region ?_
    simp -implicitDefEqProofs only [push_cast, ↓reduceIte, Nat.reduceEqDiff, Nat.reduceAdd, Nat.reduceMul, Nat.reduceSub, Nat.reduceLeDiff, Nat.reduceLT, reduceCtorEq]
    refine hK9 _ ?_
    clear hK9
    refine SC.block ?_
    refine SC.loop (fun x : SprI => ⟨[(1, .v (.slice aP ps.length cP)), (3, .v (.pointer (some ⟨b3, 0, none⟩))), (5, .v (.pointer (some ⟨b5, 0, none⟩))), (8, .own (.l 8) 0), (9, .clo (.func 58) [.v (.pointer (some ⟨b3, 0, none⟩)), .own (.l 8) 0]), (10, .own (.l 10) 0)], [(.l 34, .row 43 1 ps.length (outXs x.aa x.cc x.outs ps.length)), (.l 8, .box [.row (.l 34)] 44), (.l 10, .box [.v (.int .i64 x.outs.length)] 3)], x.F⟩) (fun x => 1 ≤ x.outs.length ∧ x.outs.length ≤ ps.length ∧ x.outs = spreadRows l ps ds x.outs.length ∧ x.F.to F1 ∧ rowsOk x.F x.aa x.cc x.outs ∧ (∀ j, 1 ≤ j → j < x.outs.length → badK ps ds l.length j = false) ∧ rowsBd x.outs) (fun x => ps.length - x.outs.length) ⟨[rowOf (finA l) l.length], fun _ => aN, fun _ => cN, F2⟩ (Le.refl _) ?_ fun x hx => ?_
    · refine ⟨by simp, by simp; omega, by simp [spreadRows], hto2, ?_, fun j h1 h2 => absurd h2 (by simp; omega), ?_⟩
      · intro i l' hl'
        cases i with
        | zero =>
          simp only [List.getElem?_cons_zero, Option.some.injEq] at hl'
          subst hl'
          exact ⟨by rw [rowOf_length]; exact hcN, hrN⟩
        | succ i => simp at hl'
      · show rowsBd [rowOf (finA l) l.length]
        intro j row x hj hx
        cases j with
        | zero =>
          simp only [List.getElem?_cons_zero, Option.some.injEq] at hj
          subst hj
          obtain ⟨i, hi, rfl⟩ := List.mem_map.1 hx
          have := runMax_bd (n := l.length) hfin i (List.mem_range.1 hi)
          simp only [Int.ofNat_zero, Int.zero_add]
          omega
        | succ j => simp at hj
    obtain ⟨outs, aa, cc, Fx⟩ := x
    simp only at hx
    obtain ⟨hk1, hk3, hsr, htx, hro, hbk, hrb⟩ := hx
    have hFPx : Fx.to (rowF aP (ints ps)) := Fact.to_trans htx (Fact.to_trans hto hFP)
    refine SC.seqN [1, 3, 5, 8, 9, 10] [.l 3, .l 5, .l 34, .l 8, .l 10, .l 11] fun K10 hK10 => ?_
    refine SC.seqN [1, 3, 5, 8, 9, 10, 42] [.l 3, .l 5, .l 34, .l 8, .l 10, .l 11] fun K11 hK11 => SC.region ?_
    simp -implicitDefEqProofs only [push_cast, ↓reduceIte, Nat.reduceEqDiff, Nat.reduceAdd, Nat.reduceMul, Nat.reduceSub, Nat.reduceLeDiff, Nat.reduceLT, reduceCtorEq]
    refine hK11 _ ?_
    clear hK11
    refine SC.cond ?_
    simp -implicitDefEqProofs only [push_cast, ↓reduceIte, Nat.reduceEqDiff, Nat.reduceAdd, Nat.reduceMul, Nat.reduceSub, Nat.reduceLeDiff, Nat.reduceLT, reduceCtorEq]
    refine ⟨fun h2 => ?_, fun h2 => ?_⟩
    · skip
      have hk2 : outs.length < ps.length := by omega
      have hgp : ps[outs.length]? = some ps[outs.length] := List.getElem?_eq_getElem hk2
      have hgd : ds[outs.length]? = some (ds[outs.length]'(by omega)) := List.getElem?_eq_getElem (by omega)
      refine SC.skip ?_
      simp -implicitDefEqProofs only [push_cast, ↓reduceIte, Nat.reduceEqDiff, Nat.reduceAdd, Nat.reduceMul, Nat.reduceSub, Nat.reduceLeDiff, Nat.reduceLT, reduceCtorEq]
      refine hK10 _ ?_
      clear hK10
      refine SC.seqN [1, 3, 5, 8, 9, 10] [.l 3, .l 5, .l 34, .l 8, .l 10, .l 11] fun K12 hK12 => ?_
      refine SC.block ?_
      refine SC.seqN [1, 3, 5, 8, 9, 10, 11] [.l 3, .l 5, .l 34, .l 8, .l 10, .l 11] fun K13 hK13 => SC.region ?_
      simp -implicitDefEqProofs only [push_cast, ↓reduceIte, Nat.reduceEqDiff, Nat.reduceAdd, Nat.reduceMul, Nat.reduceSub, Nat.reduceLeDiff, Nat.reduceLT, reduceCtorEq]
      refine ⟨by omega, rowF_some hFPx (ints_ne (by omega)), loadInt outs.length hFPx hgp rfl ?_⟩
      simp -implicitDefEqProofs only [push_cast, ↓reduceIte, Nat.reduceEqDiff, Nat.reduceAdd, Nat.reduceMul, Nat.reduceSub, Nat.reduceLeDiff, Nat.reduceLT, reduceCtorEq]
      refine hK13 _ ?_
      clear hK13
      refine SC.frzB (k := .l 10) rfl rfl fun b10 r10 => ?_
      simp -implicitDefEqProofs only [push_cast, ↓reduceIte, Nat.reduceEqDiff, Nat.reduceAdd, Nat.reduceMul, Nat.reduceSub, Nat.reduceLeDiff, Nat.reduceLT, reduceCtorEq]
      refine SC.frzB (k := .l 11) rfl rfl fun b11 r11 => ?_
      simp -implicitDefEqProofs only [push_cast, ↓reduceIte, Nat.reduceEqDiff, Nat.reduceAdd, Nat.reduceMul, Nat.reduceSub, Nat.reduceLeDiff, Nat.reduceLT, reduceCtorEq]
      obtain ⟨F3, hF3⟩ : ∃ F3, F3 = (Fx.and (cellsF b10 0 [.int .i64 outs.length])).and (cellsF b11 0 [.int .i64 ps[outs.length]]) := ⟨_, rfl⟩
      have hto3 : F3.to Fx := by rw [hF3]; exact Fact.to_left (Fact.to_left (Fact.to_refl _))
      have hb10 : F3.to (cellsF b10 0 [.int .i64 outs.length]) := by rw [hF3]; exact Fact.to_left (Fact.to_right (Fact.to_refl _))
      have hb11 : F3.to (cellsF b11 0 [.int .i64 ps[outs.length]]) := by rw [hF3]; exact Fact.to_right (Fact.to_refl _)
      have hto31 : F3.to F1 := Fact.to_trans hto3 htx
      have hb3c : F3.to (cellsF b3 0 [.slice a l.length c]) := Fact.to_trans hto31 hb3
      have hb5c : F3.to (cellsF b5 0 [.slice aD ds.length cD]) := Fact.to_trans hto31 hb5
      have hFD3 : F3.to (rowF aD (slcs aa0 cc0 ds)) := Fact.to_trans hto31 (Fact.to_trans hto hFD)
      have hRD3 : F3.to (rowF (aa0 outs.length) (ints (ds[outs.length]'(by omega)))) := Fact.to_trans hto31 (Fact.to_trans hto (hRD _ _ hgd).2)
      have hlD := hrd (ds[outs.length]'(by omega)) (List.getElem_mem _)
      rw [← hF3]
      refine SC.seqN [1, 3, 5, 8, 9, 10, 11] [.l 3, .l 5, .l 34, .l 8, .l 10, .l 11] fun K14 hK14 => ?_
      refine SC.seqN [1, 3, 5, 8, 9, 10, 11, 72] [.l 3, .l 5, .l 34, .l 8, .l 10, .l 11] fun K15 hK15 => SC.drawnP (.load 0 (.take 1 (.take 2 (.load 3 (.load 4 (.take 5 (.take 6 (.take 7 (.load 8 (.load 9 (.take 10 (.load 11 (.take 12 (.load 13 (.take 14 (.take 15 (.take 16 (.take 17 (.load 18 (.load 19 (.take 20 (.load 21 (.forkE 22 [3, 5, 10, 11, 59] (.take 23 (.done)) (.stop)))))))))))))))))))))))) (by kernel_rfl) (by kernel_rfl) (fun _ _ h => h) ?_
      simp -implicitDefEqProofs only [push_cast, ↓reduceIte, Nat.reduceEqDiff, Nat.reduceAdd, Nat.reduceMul, Nat.reduceSub, Nat.reduceLeDiff, Nat.reduceLT, reduceCtorEq]
      suffices key15 : ∀ b, b = badK ps ds l.length outs.length → K15 ⟨[(1, .v (.slice aP ps.length cP)), (3, .v (.pointer (some ⟨b3, 0, none⟩))), (5, .v (.pointer (some ⟨b5, 0, none⟩))), (8, .own (.l 8) 0), (9, .clo (.func 58) [.v (.pointer (some ⟨b3, 0, none⟩)), .own (.l 8) 0]), (10, .v (.pointer (some ⟨b10, 0, none⟩))), (11, .v (.pointer (some ⟨b11, 0, none⟩))), (72, .v (.bool b))], [(.l 34, .row 43 1 ps.length (outXs aa cc outs ps.length)), (.l 8, .box [.row (.l 34)] 44)], F3⟩ by
        clear hK8 hK12 hK14 hK15
        repeat' (first
          | (with_reducible refine loadAt hb11 ?_
             simp -implicitDefEqProofs only [push_cast, ↓reduceIte, Nat.reduceEqDiff, Nat.reduceAdd, Nat.reduceMul, Nat.reduceSub, Nat.reduceLeDiff, Nat.reduceLT, reduceCtorEq])
          | (with_reducible refine loadAt hb10 ?_
             simp -implicitDefEqProofs only [push_cast, ↓reduceIte, Nat.reduceEqDiff, Nat.reduceAdd, Nat.reduceMul, Nat.reduceSub, Nat.reduceLeDiff, Nat.reduceLT, reduceCtorEq])
          | (with_reducible refine loadAt hb5c ?_
             simp -implicitDefEqProofs only [push_cast, ↓reduceIte, Nat.reduceEqDiff, Nat.reduceAdd, Nat.reduceMul, Nat.reduceSub, Nat.reduceLeDiff, Nat.reduceLT, reduceCtorEq])
          | (with_reducible refine loadAt hb3c ?_
             simp -implicitDefEqProofs only [push_cast, ↓reduceIte, Nat.reduceEqDiff, Nat.reduceAdd, Nat.reduceMul, Nat.reduceSub, Nat.reduceLeDiff, Nat.reduceLT, reduceCtorEq])
          | (with_reducible refine And.intro (rowF_some hFD3 (slcs_ne (by omega))) ?_)
          | (with_reducible refine loadRow outs.length hFD3 hgd ?_ ?_
             · rfl
             simp -implicitDefEqProofs only [push_cast, ↓reduceIte, Nat.reduceEqDiff, Nat.reduceAdd, Nat.reduceMul, Nat.reduceSub, Nat.reduceLeDiff, Nat.reduceLT, reduceCtorEq])
          | (with_reducible refine callL_c2 ?_)
          | (with_reducible refine callL_fn0 (containsInt_fn (ds[outs.length]'(by omega)) (aa0 outs.length) (cc0 outs.length) 62 #[] bigD F3 hRD3 (by omega) (by kernel_rfl) fun s _ => spread3_fn s F3) ?_ (fun _ h => h) ?_
             · rfl
             intro v G hv
             subst hv
             simp -implicitDefEqProofs only [push_cast, ↓reduceIte, Nat.reduceEqDiff, Nat.reduceAdd, Nat.reduceMul, Nat.reduceSub, Nat.reduceLeDiff, Nat.reduceLT, reduceCtorEq])
          | (with_reducible refine And.intro (by omega) ?_)
          | (with_reducible refine And.intro ?_ ?_)
          | intro h
          | exact rfl)
        all_goals (refine key15 _ ?_; clear key15; simp only [badK, hgp, hgd])
        all_goals (cases hA : (ds[outs.length]'(by omega)).any bigD)
        all_goals (rw [Bool.eq_iff_iff]; simp only [hA, Bool.or_eq_true, decide_eq_true_eq, Bool.false_eq_true, or_false, or_true, true_iff, false_iff, iff_true, iff_false]; try omega)
      intro b hb
      subst hb
      refine hK15 _ ?_
      clear hK15
      refine SC.cond ?_
      simp -implicitDefEqProofs only [push_cast, ↓reduceIte, Nat.reduceEqDiff, Nat.reduceAdd, Nat.reduceMul, Nat.reduceSub, Nat.reduceLeDiff, Nat.reduceLT, reduceCtorEq]
      refine ⟨fun h3 => ?_, fun h3 => ?_⟩
      · skip
        refine SC.seqN [6, 7] [.l 3, .l 5, .l 34, .l 8, .l 10, .l 11] fun K16 hK16 => SC.region ?_
        simp -implicitDefEqProofs only [push_cast, ↓reduceIte, Nat.reduceEqDiff, Nat.reduceAdd, Nat.reduceMul, Nat.reduceSub, Nat.reduceLeDiff, Nat.reduceLT, reduceCtorEq]
        refine hK16 _ ?_
        clear hK16
        refine SC.ret ?_
        simp -implicitDefEqProofs only [push_cast, ↓reduceIte, Nat.reduceEqDiff, Nat.reduceAdd, Nat.reduceMul, Nat.reduceSub, Nat.reduceLeDiff, Nat.reduceLT, reduceCtorEq, Tryz.f17]
        have hb : spreadBad l ps ds = true := by
          simp only [spreadBad, Bool.or_eq_true]
          exact .inr (List.any_eq_true.2 ⟨outs.length, List.mem_range.2 hk2, by simp [hk1, h3]⟩)
        exact ⟨_, by rw [spreadE, if_pos hb], by rw [spreadR, if_pos hb]; exact isIntss_nil _⟩
      · skip
        have hbK := h3
        simp only [badK, hgp, hgd, Bool.or_eq_false_iff, decide_eq_false_iff_not, Classical.not_not] at hbK
        obtain ⟨hq0, hq1, hq2, hq3⟩ := hbK
        have hrows : ∀ i, i < outs.length → ∃ po, outs[i]? = some po ∧ po.length = l.length ∧ F3.to (rowF (aa i) (ints po)) := by
          intro i hi
          obtain ⟨f, hf⟩ := spreadRows_row (l := l) (ps := ps) (ds := ds) hi
          rw [← hsr] at hf
          exact ⟨_, hf, rowOf_length _ _, Fact.to_trans hto3 (hro i _ hf).2⟩
        have hbd1 : ∀ i, i < l.length → 0 ≤ delayA outs ps ds outs.length i ∧ delayA outs ps ds outs.length i ≤ 1100000000000 * ((outs.length : Int) + 1) := by
          intro i hi
          obtain ⟨po, hpo, hpl, _⟩ := hrows (ps[outs.length]).toNat (by omega)
          have hv1 : po[i]? = some (po[i]'(by omega)) := List.getElem?_eq_getElem (by omega)
          have hv2 : (ds[outs.length]'(by omega))[i]? = some ((ds[outs.length]'(by omega))[i]'(by omega)) := List.getElem?_eq_getElem (by omega)
          simp only [delayA, getD2, List.getD_eq_getElem?_getD, hgp, hgd, hpo, hv1, hv2, Option.getD_some]
          have h1 := hrb _ po (po[i]'(by omega)) hpo (List.getElem_mem _)
          have h2 := List.any_eq_false.1 hq3 ((ds[outs.length]'(by omega))[i]'(by omega)) (List.getElem_mem _)
          simp only [bigD, Bool.or_eq_true, decide_eq_true_eq, not_or] at h2
          omega
        refine SC.skip ?_
        simp -implicitDefEqProofs only [push_cast, ↓reduceIte, Nat.reduceEqDiff, Nat.reduceAdd, Nat.reduceMul, Nat.reduceSub, Nat.reduceLeDiff, Nat.reduceLT, reduceCtorEq]
        refine hK14 _ ?_
        clear hK14
        refine SC.region ?_
        simp -implicitDefEqProofs only [push_cast, ↓reduceIte, Nat.reduceEqDiff, Nat.reduceAdd, Nat.reduceMul, Nat.reduceSub, Nat.reduceLeDiff, Nat.reduceLT, reduceCtorEq]
        suffices hkE : ∀ (aN : Option Addr) (cN : Nat) (F4 : Fact), F4.to F3 → l.length ≤ cN → F4.to (rowF aN (ints (rowOf (delayA outs ps ds outs.length) l.length))) → K12 ⟨[(1, .v (.slice aP ps.length cP)), (3, .v (.pointer (some ⟨b3, 0, none⟩))), (5, .v (.pointer (some ⟨b5, 0, none⟩))), (8, .own (.l 8) 0), (9, .clo (.func 58) [.v (.pointer (some ⟨b3, 0, none⟩)), .own (.l 8) 0]), (10, .v (.pointer (some ⟨b10, 0, none⟩)))], [(.l 34, .row 43 1 ps.length (outXs (upA aa outs.length aN) (upA cc outs.length cN) (outs ++ [rowOf (delayA outs ps ds outs.length) l.length]) ps.length)), (.l 8, .box [.row (.l 34)] 44)], F4⟩ by
          refine loadAt hb10 ?_
          simp -implicitDefEqProofs only [push_cast, ↓reduceIte, Nat.reduceEqDiff, Nat.reduceAdd, Nat.reduceMul, Nat.reduceSub, Nat.reduceLeDiff, Nat.reduceLT, reduceCtorEq]
          refine callL_in Tryz.func58 rfl (Nat.le_of_ble_eq_true rfl) (Nat.le_of_ble_eq_true rfl) (by kernel_rfl) ?_
          simp -implicitDefEqProofs only [push_cast, ↓reduceIte, Nat.reduceEqDiff, Nat.reduceAdd, Nat.reduceMul, Nat.reduceSub, Nat.reduceLeDiff, Nat.reduceLT, reduceCtorEq]
          refine SC.seqN [0, 1, 2, 3, 6, 1000001, 1000003, 1000005, 1000008, 1000009, 1000010] [.l 10, .l 34, .l 8] fun K1A2 hK1A2 => SC.region ?_
          simp -implicitDefEqProofs only [push_cast, ↓reduceIte, Nat.reduceEqDiff, Nat.reduceAdd, Nat.reduceMul, Nat.reduceSub, Nat.reduceLeDiff, Nat.reduceLT, reduceCtorEq]
          refine loadAt hb3c ?_
          simp -implicitDefEqProofs only [push_cast, ↓reduceIte, Nat.reduceEqDiff, Nat.reduceAdd, Nat.reduceMul, Nat.reduceSub, Nat.reduceLeDiff, Nat.reduceLT, reduceCtorEq]
          refine ⟨⟨by omega, by rw [mxl]; omega, by omega⟩, ?_⟩
          simp only [Int.toNat_natCast, zrep_ints (delayA outs ps ds outs.length)]
          refine hK1A2 _ ?_
          clear hK1A2
          refine SC.seqN [0, 3, 6, 1000001, 1000003, 1000005, 1000008, 1000009, 1000010] [.l 10, .l 34, .l 8] fun K2A2 hK2A2 => ?_
          refine SC.seqN [0, 1, 3, 6, 12, 13, 1000001, 1000003, 1000005, 1000008, 1000009, 1000010] [.l 10, .l 34, .l 8] fun K3A2 hK3A2 => SC.region ?_
          simp -implicitDefEqProofs only [push_cast, ↓reduceIte, Nat.reduceEqDiff, Nat.reduceAdd, Nat.reduceMul, Nat.reduceSub, Nat.reduceLeDiff, Nat.reduceLT, reduceCtorEq]
          refine loadAt hb3c ?_
          simp -implicitDefEqProofs only [push_cast, ↓reduceIte, Nat.reduceEqDiff, Nat.reduceAdd, Nat.reduceMul, Nat.reduceSub, Nat.reduceLeDiff, Nat.reduceLT, reduceCtorEq]
          refine hK3A2 _ ?_
          clear hK3A2
          refine SC.block ?_
          refine SC.loop (fun i : Nat => ⟨[(0, .v (.int .i64 outs.length)), (1, .clo (.func 63) [.own (.l 8) 0, .v (.pointer (some ⟨b11, 0, none⟩)), .v (.pointer (some ⟨b5, 0, none⟩)), .v (.pointer (some ⟨b10, 0, none⟩))]), (3, .own (.l 8) 0), (6, .row (.l 10)), (12, .v (.int .i64 l.length)), (13, .v (.int .i64 i)), (1000001, .v (.slice aP ps.length cP)), (1000003, .v (.pointer (some ⟨b3, 0, none⟩))), (1000005, .v (.pointer (some ⟨b5, 0, none⟩))), (1000008, .own (.l 8) 0), (1000009, .clo (.func 58) [.v (.pointer (some ⟨b3, 0, none⟩)), .own (.l 8) 0]), (1000010, .v (.pointer (some ⟨b10, 0, none⟩)))], [(.l 10, .row 3 1 l.length (ints (atL (delayA outs ps ds outs.length) i l.length))), (.l 34, .row 43 1 ps.length (outXs aa cc outs ps.length)), (.l 8, .box [.row (.l 34)] 44)], F3⟩) (fun i => i ≤ l.length) (fun i => l.length - i) 0 (Le.refl _) (Nat.zero_le _) fun i hi => ?_
          refine SC.seqN [0, 1, 3, 6, 12, 13, 14, 1000001, 1000003, 1000005, 1000008, 1000009, 1000010] [.l 10, .l 34, .l 8] fun K4A2 hK4A2 => SC.region ?_
          simp -implicitDefEqProofs only [push_cast, ↓reduceIte, Nat.reduceEqDiff, Nat.reduceAdd, Nat.reduceMul, Nat.reduceSub, Nat.reduceLeDiff, Nat.reduceLT, reduceCtorEq]
          refine hK4A2 _ ?_
          clear hK4A2
          refine SC.seqN [0, 1, 3, 6, 12, 13, 1000001, 1000003, 1000005, 1000008, 1000009, 1000010] [.l 10, .l 34, .l 8] fun K5A2 hK5A2 => ?_
          refine SC.cond ?_
          simp -implicitDefEqProofs only [push_cast, ↓reduceIte, Nat.reduceEqDiff, Nat.reduceAdd, Nat.reduceMul, Nat.reduceSub, Nat.reduceLeDiff, Nat.reduceLT, reduceCtorEq]
          refine ⟨fun h1A2 => ?_, fun h1A2 => ?_⟩
          · skip
            have hil : i < l.length := by omega
            have hgl : l[i]? = some l[i] := List.getElem?_eq_getElem hil
            have hal := atL_length (delayA outs ps ds outs.length) i l.length
            refine SC.skip ?_
            simp -implicitDefEqProofs only [push_cast, ↓reduceIte, Nat.reduceEqDiff, Nat.reduceAdd, Nat.reduceMul, Nat.reduceSub, Nat.reduceLeDiff, Nat.reduceLT, reduceCtorEq]
            refine hK5A2 _ ?_
            clear hK5A2
            refine SC.seqN [0, 1, 3, 6, 12, 13, 1000001, 1000003, 1000005, 1000008, 1000009, 1000010] [.l 10, .l 34, .l 8] fun K6A2 hK6A2 => ?_
            refine SC.block ?_
            refine SC.seqN [0, 1, 3, 6, 7, 12, 13, 1000001, 1000003, 1000005, 1000008, 1000009, 1000010] [.l 10, .l 34, .l 8] fun K7A2 hK7A2 => SC.region ?_
            simp -implicitDefEqProofs only [push_cast, ↓reduceIte, Nat.reduceEqDiff, Nat.reduceAdd, Nat.reduceMul, Nat.reduceSub, Nat.reduceLeDiff, Nat.reduceLT, reduceCtorEq]
            refine hK7A2 _ ?_
            clear hK7A2
            refine SC.seqN [0, 1, 3, 6, 7, 12, 13, 1000001, 1000003, 1000005, 1000008, 1000009, 1000010] [.l 10, .l 34, .l 8] fun K8A2 hK8A2 => SC.region ?_
            simp -implicitDefEqProofs only [push_cast, ↓reduceIte, Nat.reduceEqDiff, Nat.reduceAdd, Nat.reduceMul, Nat.reduceSub, Nat.reduceLeDiff, Nat.reduceLT, reduceCtorEq]
            refine callL_in Tryz.func63 rfl (Nat.le_of_ble_eq_true rfl) (Nat.le_of_ble_eq_true rfl) (by kernel_rfl) ?_
            simp -implicitDefEqProofs only [push_cast, ↓reduceIte, Nat.reduceEqDiff, Nat.reduceAdd, Nat.reduceMul, Nat.reduceSub, Nat.reduceLeDiff, Nat.reduceLT, reduceCtorEq]
            refine SC.seqN [0, 1, 2, 3, 4, 1000000, 1000001, 1000003, 1000006, 1000007, 1000012, 1000013, 1000016, 1000017, 2000001, 2000003, 2000005, 2000008, 2000009, 2000010] [.l 10, .l 34, .l 8] fun K1B1 hK1B1 => SC.region ?_
            simp -implicitDefEqProofs only [push_cast, ↓reduceIte, Nat.reduceEqDiff, Nat.reduceAdd, Nat.reduceMul, Nat.reduceSub, Nat.reduceLeDiff, Nat.reduceLT, reduceCtorEq]
            refine hK1B1 _ ?_
            clear hK1B1
            refine SC.seqN [6, 1000000, 1000001, 1000003, 1000006, 1000007, 1000012, 1000013, 1000016, 1000017, 2000001, 2000003, 2000005, 2000008, 2000009, 2000010] [.l 10, .l 34, .l 8] fun K2B1 hK2B1 => SC.drawnP (.take 4 (.take 11 (.load 1 (.load 7 (.load 8 (.take 9 (.load 10 (.take 12 (.load 13 (.forkE 0 [2, 3, 4, 16, 19] (.take 2 (.load 3 (.take 5 (.load 6 (.take 14 (.take 15 (.done))))))) (.stop))))))))))) (by kernel_rfl) (by kernel_rfl) (fun _ _ h => h) ?_
            simp -implicitDefEqProofs only [push_cast, ↓reduceIte, Nat.reduceEqDiff, Nat.reduceAdd, Nat.reduceMul, Nat.reduceSub, Nat.reduceLeDiff, Nat.reduceLT, reduceCtorEq]
            suffices key2B1 : K2B1 ⟨[(6, .v (.int .i64 (delayA outs ps ds outs.length i))), (1000000, .v (.int .i64 outs.length)), (1000001, .clo (.func 63) [.own (.l 8) 0, .v (.pointer (some ⟨b11, 0, none⟩)), .v (.pointer (some ⟨b5, 0, none⟩)), .v (.pointer (some ⟨b10, 0, none⟩))]), (1000003, .own (.l 8) 0), (1000006, .row (.l 10)), (1000007, .v (.int .i64 i)), (1000012, .v (.int .i64 l.length)), (1000013, .v (.int .i64 i)), (1000016, .row (.l 10)), (1000017, .v (.int .i64 i)), (2000001, .v (.slice aP ps.length cP)), (2000003, .v (.pointer (some ⟨b3, 0, none⟩))), (2000005, .v (.pointer (some ⟨b5, 0, none⟩))), (2000008, .own (.l 8) 0), (2000009, .clo (.func 58) [.v (.pointer (some ⟨b3, 0, none⟩)), .own (.l 8) 0]), (2000010, .v (.pointer (some ⟨b10, 0, none⟩)))], [(.l 10, .row 3 1 l.length (ints (atL (delayA outs ps ds outs.length) i l.length))), (.l 34, .row 43 1 ps.length (outXs aa cc outs ps.length)), (.l 8, .box [.row (.l 34)] 44)], F3⟩ by
              clear hK2B1
              obtain ⟨po, hpo, hpl, hpr⟩ := hrows (ps[outs.length]).toNat (by omega)
              have hgo : (outXs aa cc outs ps.length)[(ps[outs.length]).toNat * 1]? = some (.slice (aa (ps[outs.length]).toNat) po.length (cc (ps[outs.length]).toNat)) := by rw [Nat.mul_one]; exact outXs_get hpo
              have hv1 : po[i]? = some (po[i]'(by omega)) := List.getElem?_eq_getElem (by omega)
              have hv2 : (ds[outs.length]'(by omega))[i]? = some ((ds[outs.length]'(by omega))[i]'(by omega)) := List.getElem?_eq_getElem (by omega)
              have hdl : delayA outs ps ds outs.length i = (po[i]'(by omega)) + ((ds[outs.length]'(by omega))[i]'(by omega)) := by
                simp only [delayA, getD2, List.getD_eq_getElem?_getD, hgp, hgd, hpo, hv1, hv2, Option.getD_some]
              have hbd := hbd1 i hil
              rw [hdl] at key2B1 hbd
              have hrow1 : F3.to (rowF (aa (ps[outs.length]).toNat) (ints po)) := hpr
              repeat' (first
                | exact key2B1
                | (with_reducible refine loadAt hb11 ?_
                   simp -implicitDefEqProofs only [push_cast, ↓reduceIte, Nat.reduceEqDiff, Nat.reduceAdd, Nat.reduceMul, Nat.reduceSub, Nat.reduceLeDiff, Nat.reduceLT, reduceCtorEq])
                | (with_reducible refine loadAt hb5c ?_
                   simp -implicitDefEqProofs only [push_cast, ↓reduceIte, Nat.reduceEqDiff, Nat.reduceAdd, Nat.reduceMul, Nat.reduceSub, Nat.reduceLeDiff, Nat.reduceLT, reduceCtorEq])
                | (with_reducible refine loadAt hb10 ?_
                   simp -implicitDefEqProofs only [push_cast, ↓reduceIte, Nat.reduceEqDiff, Nat.reduceAdd, Nat.reduceMul, Nat.reduceSub, Nat.reduceLeDiff, Nat.reduceLT, reduceCtorEq])
                | (with_reducible refine And.intro (rowF_some hFD3 (slcs_ne (by omega))) ?_)
                | (with_reducible refine And.intro (rowF_some hRD3 (ints_ne (by omega))) ?_)
                | (with_reducible refine And.intro (rowF_some hrow1 (ints_ne (by omega))) ?_)
                | (with_reducible refine loadRow outs.length hFD3 hgd ?_ ?_
                   · rfl
                   simp -implicitDefEqProofs only [push_cast, ↓reduceIte, Nat.reduceEqDiff, Nat.reduceAdd, Nat.reduceMul, Nat.reduceSub, Nat.reduceLeDiff, Nat.reduceLT, reduceCtorEq])
                | (with_reducible refine loadInt i hRD3 hv2 ?_ ?_
                   · rfl
                   simp -implicitDefEqProofs only [push_cast, ↓reduceIte, Nat.reduceEqDiff, Nat.reduceAdd, Nat.reduceMul, Nat.reduceSub, Nat.reduceLeDiff, Nat.reduceLT, reduceCtorEq])
                | (with_reducible refine loadInt i hrow1 hv1 ?_ ?_
                   · rfl
                   simp -implicitDefEqProofs only [push_cast, ↓reduceIte, Nat.reduceEqDiff, Nat.reduceAdd, Nat.reduceMul, Nat.reduceSub, Nat.reduceLeDiff, Nat.reduceLT, reduceCtorEq])
                | (simp only [idx_vals, hgo, Option.map_some, push_cast, ↓reduceIte, Nat.reduceEqDiff, Nat.reduceAdd, Nat.reduceMul, Nat.reduceSub, Nat.reduceLeDiff, Nat.reduceLT, reduceCtorEq])
                | (with_reducible refine And.intro (by omega) ?_)
                | (with_reducible refine And.intro ?_ ?_)
                | intro h
                | exact rfl)
            refine hK2B1 _ ?_
            clear hK2B1
            refine SC.ret ?_
            simp -implicitDefEqProofs only [push_cast, ↓reduceIte, Nat.reduceEqDiff, Nat.reduceAdd, Nat.reduceMul, Nat.reduceSub, Nat.reduceLeDiff, Nat.reduceLT, reduceCtorEq, Tryz.f63]
            refine ⟨by omega, by rw [ints_length, hal]; omega, ?_⟩
            simp only [Int.toNat_natCast, Nat.mul_one, ints_set]
            refine hK8A2 _ ?_
            clear hK8A2
            refine SC.seqN [0, 1, 3, 6, 7, 12, 13, 23, 1000001, 1000003, 1000005, 1000008, 1000009, 1000010] [.l 10, .l 34, .l 8] fun K9A2 hK9A2 => SC.region ?_
            simp -implicitDefEqProofs only [push_cast, ↓reduceIte, Nat.reduceEqDiff, Nat.reduceAdd, Nat.reduceMul, Nat.reduceSub, Nat.reduceLeDiff, Nat.reduceLT, reduceCtorEq]
            refine hK9A2 _ ?_
            clear hK9A2
            refine SC.cond ?_
            simp -implicitDefEqProofs only [push_cast, ↓reduceIte, Nat.reduceEqDiff, Nat.reduceAdd, Nat.reduceMul, Nat.reduceSub, Nat.reduceLeDiff, Nat.reduceLT, reduceCtorEq]
            refine ⟨fun h2A2 => ?_, fun h2A2 => ?_⟩
            · skip
              have h0 : 0 < i := by omega
              refine SC.drawnP (.take 0 (.take 1 (.take 2 (.take 3 (.take 4 (.take 6 (.take 7 (.take 8 (.take 9 (.load 5 (.load 10 (.take 11 (.take 12 (.fork 13 (.done) (.stop))))))))))))))) (by kernel_rfl) (by kernel_rfl) (fun _ _ h => h) ?_
              simp -implicitDefEqProofs only [push_cast, ↓reduceIte, Nat.reduceEqDiff, Nat.reduceAdd, Nat.reduceMul, Nat.reduceSub, Nat.reduceLeDiff, Nat.reduceLT, reduceCtorEq]
              have hg1 : ((atL (delayA outs ps ds outs.length) i l.length).set i ((delayA outs ps ds outs.length) i))[i]? = some ((delayA outs ps ds outs.length) i) := by rw [List.getElem?_set_self (by rw [hal]; omega)]
              have hg2 : ((atL (delayA outs ps ds outs.length) i l.length).set i ((delayA outs ps ds outs.length) i))[i - 1]? = some (runMax (delayA outs ps ds outs.length) (i - 1)) := by rw [List.getElem?_set_ne (by omega)]; exact atL_get _ (by omega) (by omega)
              have ht1 : (((i : Int)) - 1).toNat = i - 1 := by omega
              refine ⟨by omega, by omega, by omega, ?_⟩
              simp only [Int.toNat_natCast, Nat.mul_one, ht1, idx_ints, hg1, hg2, push_cast, ↓reduceIte, Nat.reduceEqDiff, Nat.reduceAdd, Nat.reduceMul, Nat.reduceSub, Nat.reduceLeDiff, Nat.reduceLT, reduceCtorEq]
              refine ⟨by omega, by rw [ints_length, List.length_set, hal]; omega, ?_⟩
              simp only [ints_set]
              refine hK6A2 _ ?_
              clear hK6A2
              refine SC.region ?_
              simp -implicitDefEqProofs only [push_cast, ↓reduceIte, Nat.reduceEqDiff, Nat.reduceAdd, Nat.reduceMul, Nat.reduceSub, Nat.reduceLeDiff, Nat.reduceLT, reduceCtorEq]
              refine ⟨by omega, i + 1, by omega, by omega, Le.trans (Le.norm _ [0, 1, 3, 6, 12, 13, 1000001, 1000003, 1000005, 1000008, 1000009, 1000010] [.l 10, .l 34, .l 8]) ?_⟩
              simp -implicitDefEqProofs only [push_cast, ↓reduceIte, Nat.reduceEqDiff, Nat.reduceAdd, Nat.reduceMul, Nat.reduceSub, Nat.reduceLeDiff, Nat.reduceLT, reduceCtorEq]
              first
                | (rw [atL_max (delayA outs ps ds outs.length) l.length h0]
                   exact Le.refl _)
                | (rw [atL_fst (delayA outs ps ds outs.length) l.length (by omega)]
                   exact Le.refl _)
            · skip
              refine SC.skip ?_
              simp -implicitDefEqProofs only [push_cast, ↓reduceIte, Nat.reduceEqDiff, Nat.reduceAdd, Nat.reduceMul, Nat.reduceSub, Nat.reduceLeDiff, Nat.reduceLT, reduceCtorEq]
              refine hK6A2 _ ?_
              clear hK6A2
              refine SC.region ?_
              simp -implicitDefEqProofs only [push_cast, ↓reduceIte, Nat.reduceEqDiff, Nat.reduceAdd, Nat.reduceMul, Nat.reduceSub, Nat.reduceLeDiff, Nat.reduceLT, reduceCtorEq]
              refine ⟨by omega, i + 1, by omega, by omega, Le.trans (Le.norm _ [0, 1, 3, 6, 12, 13, 1000001, 1000003, 1000005, 1000008, 1000009, 1000010] [.l 10, .l 34, .l 8]) ?_⟩
              simp -implicitDefEqProofs only [push_cast, ↓reduceIte, Nat.reduceEqDiff, Nat.reduceAdd, Nat.reduceMul, Nat.reduceSub, Nat.reduceLeDiff, Nat.reduceLT, reduceCtorEq]
              first
                | (rw [atL_max (delayA outs ps ds outs.length) l.length h0]
                   exact Le.refl _)
                | (rw [atL_fst (delayA outs ps ds outs.length) l.length (by omega)]
                   exact Le.refl _)
          · skip
            have hi2 : i = l.length := by omega
            subst hi2
            refine SC.exit ?_
            simp -implicitDefEqProofs only [push_cast, ↓reduceIte, Nat.reduceEqDiff, Nat.reduceAdd, Nat.reduceMul, Nat.reduceSub, Nat.reduceLeDiff, Nat.reduceLT, reduceCtorEq]
            refine hK2A2 _ ?_
            clear hK2A2
            refine SC.frzRow (k := .l 10) rfl (by rw [ints_length, atL_length]; omega) fun aN bN cN hcN => ?_
            simp -implicitDefEqProofs only [push_cast, ↓reduceIte, Nat.reduceEqDiff, Nat.reduceAdd, Nat.reduceMul, Nat.reduceSub, Nat.reduceLeDiff, Nat.reduceLT, reduceCtorEq]
            refine SC.region ?_
            simp -implicitDefEqProofs only [push_cast, ↓reduceIte, Nat.reduceEqDiff, Nat.reduceAdd, Nat.reduceMul, Nat.reduceSub, Nat.reduceLeDiff, Nat.reduceLT, reduceCtorEq]
            have hst : (outXs aa cc outs ps.length).set ((outs.length : Int).toNat * 1) (.slice aN l.length cN) = outXs (upA aa outs.length aN) (upA cc outs.length cN) (outs ++ [rowOf (delayA outs ps ds outs.length) l.length]) ps.length := by
              rw [Int.toNat_natCast, Nat.mul_one]
              exact outXs_set hk2 (fun i hi => ⟨upA_ne (by omega), upA_ne (by omega)⟩) (upA_same _ _ _) (upA_same _ _ _) (rowOf_length _ _)
            refine ⟨by omega, by rw [outXs_length (by omega), Int.toNat_natCast]; omega, ?_⟩
            simp -implicitDefEqProofs only [push_cast, ↓reduceIte, Nat.reduceEqDiff, Nat.reduceAdd, Nat.reduceMul, Nat.reduceSub, Nat.reduceLeDiff, Nat.reduceLT, reduceCtorEq, Tryz.f58, hst, atL_all]
            exact hkE aN cN _ (Fact.to_left (Fact.to_refl _)) hcN (Fact.to_right (Fact.to_refl _))
            -- END
        intro aN2 cN2 F4 hto4 hcN2 hrN2
        refine hK12 _ ?_
        clear hK12
        refine SC.seqN [1, 3, 5, 8, 9, 10] [.l 3, .l 5, .l 34, .l 8, .l 10, .l 11] fun K17 hK17 => ?_
        refine SC.seqN [1, 3, 5, 8, 9, 77] [.l 3, .l 5, .l 34, .l 8, .l 10, .l 11] fun K18 hK18 => SC.region ?_
        simp -implicitDefEqProofs only [push_cast, ↓reduceIte, Nat.reduceEqDiff, Nat.reduceAdd, Nat.reduceMul, Nat.reduceSub, Nat.reduceLeDiff, Nat.reduceLT, reduceCtorEq]
        refine loadAt (Fact.to_trans hto4 hb10) ?_
        simp -implicitDefEqProofs only [push_cast, ↓reduceIte, Nat.reduceEqDiff, Nat.reduceAdd, Nat.reduceMul, Nat.reduceSub, Nat.reduceLeDiff, Nat.reduceLT, reduceCtorEq]
        refine hK18 _ ?_
        clear hK18
        refine SC.region ?_
        simp -implicitDefEqProofs only [push_cast, ↓reduceIte, Nat.reduceEqDiff, Nat.reduceAdd, Nat.reduceMul, Nat.reduceSub, Nat.reduceLeDiff, Nat.reduceLT, reduceCtorEq]
        refine hK17 _ ?_
        clear hK17
        refine SC.region ?_
        simp -implicitDefEqProofs only [push_cast, ↓reduceIte, Nat.reduceEqDiff, Nat.reduceAdd, Nat.reduceMul, Nat.reduceSub, Nat.reduceLeDiff, Nat.reduceLT, reduceCtorEq]
        refine ⟨by omega, ?_⟩
        refine ⟨⟨outs ++ [rowOf (delayA outs ps ds outs.length) l.length], upA aa outs.length aN2, upA cc outs.length cN2, F4⟩, ?_, by simp; omega, Le.trans (Le.norm _ [1, 3, 5, 8, 9, 10] [.l 34, .l 8, .l 10]) ?_⟩
        · have hl1 : (outs ++ [rowOf (delayA outs ps ds outs.length) l.length]).length = outs.length + 1 := by simp
          refine ⟨by rw [hl1]; omega, by rw [hl1]; omega, ?_, Fact.to_trans hto4 hto31, ?_, ?_, ?_⟩
          · rw [hl1]
            simp only [spreadRows]
            rw [← hsr, if_neg (by omega)]
          · intro i l' hl'
            rcases Nat.lt_or_ge i outs.length with hi | hi
            · rw [List.getElem?_append_left hi] at hl'
              have := hro i l' hl'
              have hA1 : upA aa outs.length aN2 i = aa i := upA_ne (by omega)
              have hC1 : upA cc outs.length cN2 i = cc i := upA_ne (by omega)
              exact ⟨by show l'.length ≤ upA cc outs.length cN2 i; rw [hC1]; exact this.1, by show F4.to (rowF (upA aa outs.length aN2 i) (ints l')); rw [hA1]; exact Fact.to_trans hto4 (Fact.to_trans hto3 this.2)⟩
            · rw [List.getElem?_append_right hi] at hl'
              have h0 : i - outs.length = 0 := by have := (List.getElem?_eq_some_iff.1 hl').1; simp at this; omega
              have hie : i = outs.length := by omega
              subst hie
              simp only [Nat.sub_self, List.getElem?_cons_zero, Option.some.injEq] at hl'
              subst hl'
              exact ⟨by show (rowOf _ _).length ≤ upA cc outs.length cN2 outs.length; rw [upA_same, rowOf_length]; exact hcN2, by show F4.to (rowF (upA aa outs.length aN2 outs.length) _); rw [upA_same]; exact hrN2⟩
          · intro j hj1 hj2
            rw [hl1] at hj2
            rcases Nat.lt_succ_iff_lt_or_eq.1 hj2 with hj | rfl
            · exact hbk j hj1 hj
            · exact h3
          · show rowsBd (outs ++ [rowOf (delayA outs ps ds outs.length) l.length])
            intro j row x hj hx
            rcases Nat.lt_or_ge j outs.length with hi | hi
            · rw [List.getElem?_append_left hi] at hj
              exact hrb j row x hj hx
            · rw [List.getElem?_append_right hi] at hj
              have h0 : j - outs.length = 0 := by have := (List.getElem?_eq_some_iff.1 hj).1; simp at this; omega
              have hie : j = outs.length := by omega
              subst hie
              simp only [Nat.sub_self, List.getElem?_cons_zero, Option.some.injEq] at hj
              subst hj
              obtain ⟨i, hi2, rfl⟩ := List.mem_map.1 hx
              exact runMax_bd (n := l.length) hbd1 i (List.mem_range.1 hi2)
        · simp -implicitDefEqProofs only [push_cast, ↓reduceIte, Nat.reduceEqDiff, Nat.reduceAdd, Nat.reduceMul, Nat.reduceSub, Nat.reduceLeDiff, Nat.reduceLT, reduceCtorEq]
          rw [show (((outs ++ [rowOf (delayA outs ps ds outs.length) l.length]).length : Nat) : Int) = (outs.length : Int) + 1 by simp]
          exact Le.refl _
    · skip
      refine SC.exit ?_
      simp -implicitDefEqProofs only [push_cast, ↓reduceIte, Nat.reduceEqDiff, Nat.reduceAdd, Nat.reduceMul, Nat.reduceSub, Nat.reduceLeDiff, Nat.reduceLT, reduceCtorEq]
      refine hK8 _ ?_
      clear hK8
      refine SC.seqN [6, 7] [.l 3, .l 5, .l 34, .l 8, .l 10, .l 11] fun K19 hK19 => SC.region ?_
      simp -implicitDefEqProofs only [push_cast, ↓reduceIte, Nat.reduceEqDiff, Nat.reduceAdd, Nat.reduceMul, Nat.reduceSub, Nat.reduceLeDiff, Nat.reduceLT, reduceCtorEq]
      refine hK19 _ ?_
      clear hK19
      have hkn : outs.length = ps.length := by omega
      rw [outXs_all hkn]
      refine SC.frzRow (k := .l 34) rfl (by rw [slcs_length, hkn, Nat.mul_one]) fun aO bO cO hcO => ?_
      simp -implicitDefEqProofs only [push_cast, ↓reduceIte, Nat.reduceEqDiff, Nat.reduceAdd, Nat.reduceMul, Nat.reduceSub, Nat.reduceLeDiff, Nat.reduceLT, reduceCtorEq]
      refine SC.ret ?_
      simp -implicitDefEqProofs only [push_cast, ↓reduceIte, Nat.reduceEqDiff, Nat.reduceAdd, Nat.reduceMul, Nat.reduceSub, Nat.reduceLeDiff, Nat.reduceLT, reduceCtorEq, Tryz.f17]
      have hb : spreadBad l ps ds = false := by
        simp only [spreadBad, h1, Bool.false_or, List.any_eq_false, List.mem_range]
        intro j hj
        by_cases h0 : 1 ≤ j
        · simp [hbk j h0 (by omega)]
        · simp [h0]
      refine ⟨_, by rw [spreadE, if_neg (by simp [hb])], ?_⟩
      rw [spreadR, if_neg (by simp [hb]), ← hkn, ← hsr]
      exact ⟨aO, cO, aa, cc, by rw [hkn], by omega, Fact.to_right (Fact.to_refl _), hro.to (Fact.to_left (Fact.to_refl _))⟩
end Go.Proofs.YtmamodnpghlgcaaGreatDoor
/- The specification's tree. -/

set_option linter.unusedSimpArgs false
set_option linter.unusedVariables false
set_option maxRecDepth 100000
set_option maxHeartbeats 4000000
namespace Go.Proofs.YtmamodnpghlgcaaGreatDoor
open Go.RowKit
def treeT (ps : List Int) (ds : List (List Int)) : Bool := decide (ps.length < 1) || (decide (100 < ps.length) || decide (ds.length ≠ ps.length))
def treeBad (n : Nat) (ps : List Int) (ds : List (List Int)) : Bool := treeT ps ds || (List.range ps.length).any fun k => decide (1 ≤ k) && badK ps ds n k
theorem spreadBad_eq (l : List Seg) (ps : List Int) (ds : List (List Int)) : spreadBad l ps ds = (!streamB l || treeBad l.length ps ds) := by
  simp only [spreadBad, badTop, treeBad, treeT, Bool.or_assoc]
def badK0 (p : Int) (d : List Int) (n k : Nat) : Bool := decide (p < 0) || (decide ((k : Int) ≤ p) || decide (d.length ≠ n))
theorem treeBad_at {n : Nat} {ps : List Int} {ds : List (List Int)} {k : Nat} (hk : k < ps.length) (h1 : 1 ≤ k) (hb : badK ps ds n k = true) : treeBad n ps ds = true := by
  simp only [treeBad, Bool.or_eq_true]
  exact .inr (List.any_eq_true.2 ⟨k, List.mem_range.2 hk, by simp [h1, hb]⟩)
theorem tree_fn (n : Nat) (ps : List Int) (ds : List (List Int)) (vP vD : Value) (F : Fact) (hn : n ≤ 100000) (hP : isInts ps F vP) (hD : isIntss ds F vD) (hpl : ps.length ≤ 100000) (hdl : ds.length ≤ 100000) (hrd : ∀ d ∈ ds, d.length ≤ 100000) :
    Fn Tryz.prog 64 [.int .i64 n, vP, vD] F fun v _ => v = .bool (!treeBad n ps ds) := by
  obtain ⟨aP, cP, rfl, hcP, hFP⟩ := hP
  obtain ⟨aD, cD, aa0, cc0, rfl, hcD, hFD, hRD⟩ := hD
  refine Fn.of_body Tryz.func64 rfl (Nat.le_of_ble_eq_true rfl) (Nat.le_of_ble_eq_true rfl) (by kernel_rfl) ?_
  refine SC.seqN [0, 1, 2] [] fun K1 hK1 => SC.region ?_
  simp -implicitDefEqProofs only [push_cast, ↓reduceIte, Nat.reduceEqDiff, Nat.reduceAdd, Nat.reduceMul, Nat.reduceSub, Nat.reduceLeDiff, Nat.reduceLT, reduceCtorEq]
  refine hK1 _ ?_
  clear hK1
  refine SC.seqN [0, 1, 2] [] fun K2 hK2 => ?_
  refine SC.seqN [0, 1, 2, 23] [] fun K3 hK3 => SC.region ?_
  simp -implicitDefEqProofs only [push_cast, ↓reduceIte, Nat.reduceEqDiff, Nat.reduceAdd, Nat.reduceMul, Nat.reduceSub, Nat.reduceLeDiff, Nat.reduceLT, reduceCtorEq]
  suffices key3 : ∀ b, b = treeT ps ds → K3 ⟨[(0, .v (.int .i64 n)), (1, .v (.slice aP ps.length cP)), (2, .v (.slice aD ds.length cD)), (23, .v (.bool b))], [], F⟩ by
    clear hK2 hK3
    repeat' (first
      | (with_reducible refine And.intro (by omega) ?_)
      | (with_reducible refine And.intro ?_ ?_)
      | intro h
      | exact rfl)
    all_goals (refine key3 _ ?_; clear key3; rw [Bool.eq_iff_iff]; simp only [treeT, Bool.or_eq_true, decide_eq_true_eq, Bool.false_eq_true, false_iff, true_iff, ne_eq]; omega)
  intro b hb
  subst hb
  refine hK3 _ ?_
  clear hK3
  refine SC.cond ?_
  simp -implicitDefEqProofs only [push_cast, ↓reduceIte, Nat.reduceEqDiff, Nat.reduceAdd, Nat.reduceMul, Nat.reduceSub, Nat.reduceLeDiff, Nat.reduceLT, reduceCtorEq]
  refine ⟨fun h1 => ?_, fun h1 => ?_⟩
  · skip
    refine SC.seqN [6] [] fun K4 hK4 => SC.region ?_
    simp -implicitDefEqProofs only [push_cast, ↓reduceIte, Nat.reduceEqDiff, Nat.reduceAdd, Nat.reduceMul, Nat.reduceSub, Nat.reduceLeDiff, Nat.reduceLT, reduceCtorEq]
    refine hK4 _ ?_
    clear hK4
    refine SC.ret ?_
    simp -implicitDefEqProofs only [push_cast, ↓reduceIte, Nat.reduceEqDiff, Nat.reduceAdd, Nat.reduceMul, Nat.reduceSub, Nat.reduceLeDiff, Nat.reduceLT, reduceCtorEq, Tryz.f64]
    have hb : treeBad n ps ds = true := by simp [treeBad, h1]
    rw [hb]; rfl
  · skip
    have hbt := h1
    simp only [treeT, Bool.or_eq_false_iff, decide_eq_false_iff_not, ne_eq, Classical.not_not] at hbt
    obtain ⟨hp1, hp2, hdl2⟩ := hbt
    refine SC.skip ?_
    simp -implicitDefEqProofs only [push_cast, ↓reduceIte, Nat.reduceEqDiff, Nat.reduceAdd, Nat.reduceMul, Nat.reduceSub, Nat.reduceLeDiff, Nat.reduceLT, reduceCtorEq]
    refine hK2 _ ?_
    clear hK2
    refine SC.seqN [] [] fun K5 hK5 => ?_
    refine SC.seqN [0, 1, 2, 7] [] fun K6 hK6 => SC.region ?_
    simp -implicitDefEqProofs only [push_cast, ↓reduceIte, Nat.reduceEqDiff, Nat.reduceAdd, Nat.reduceMul, Nat.reduceSub, Nat.reduceLeDiff, Nat.reduceLT, reduceCtorEq]
    refine hK6 _ ?_
    clear hK6
    refine SC.block ?_
    refine SC.loop (fun k : Nat => ⟨[(0, .v (.int .i64 n)), (1, .v (.slice aP ps.length cP)), (2, .v (.slice aD ds.length cD)), (7, .v (.int .i64 k))], [], F⟩) (fun k => 1 ≤ k ∧ k ≤ ps.length ∧ ∀ j, 1 ≤ j → j < k → badK ps ds n j = false) (fun k => ps.length - k) 1 (Le.refl _) ⟨Nat.le_refl _, by omega, fun j h1 h2 => absurd h2 (by omega)⟩ fun k hk => ?_
    obtain ⟨hk1, hk3, hbk⟩ := hk
    refine SC.seqN [0, 1, 2, 7] [] fun K7 hK7 => ?_
    refine SC.seqN [0, 1, 2, 7, 27] [] fun K8 hK8 => SC.region ?_
    simp -implicitDefEqProofs only [push_cast, ↓reduceIte, Nat.reduceEqDiff, Nat.reduceAdd, Nat.reduceMul, Nat.reduceSub, Nat.reduceLeDiff, Nat.reduceLT, reduceCtorEq]
    refine hK8 _ ?_
    clear hK8
    refine SC.cond ?_
    simp -implicitDefEqProofs only [push_cast, ↓reduceIte, Nat.reduceEqDiff, Nat.reduceAdd, Nat.reduceMul, Nat.reduceSub, Nat.reduceLeDiff, Nat.reduceLT, reduceCtorEq]
    refine ⟨fun h2 => ?_, fun h2 => ?_⟩
    · skip
      have hk2 : k < ps.length := by omega
      have hgp : ps[k]? = some ps[k] := List.getElem?_eq_getElem hk2
      have hgd : ds[k]? = some (ds[k]'(by omega)) := List.getElem?_eq_getElem (by omega)
      obtain ⟨d, hd⟩ : ∃ d, d = ds[k]'(by omega) := ⟨_, rfl⟩
      rw [← hd] at hgd
      have hRk := (hRD k d hgd).2
      have hld := hrd d (List.mem_of_getElem? hgd)
      refine SC.skip ?_
      simp -implicitDefEqProofs only [push_cast, ↓reduceIte, Nat.reduceEqDiff, Nat.reduceAdd, Nat.reduceMul, Nat.reduceSub, Nat.reduceLeDiff, Nat.reduceLT, reduceCtorEq]
      refine hK7 _ ?_
      clear hK7
      refine SC.seqN [0, 1, 2, 7] [] fun K9 hK9 => ?_
      refine SC.block ?_
      refine SC.seqN [0, 1, 2, 7] [] fun K10 hK10 => ?_
      refine SC.seqN [0, 1, 2, 7, 51] [] fun K11 hK11 => SC.region ?_
      simp -implicitDefEqProofs only [push_cast, ↓reduceIte, Nat.reduceEqDiff, Nat.reduceAdd, Nat.reduceMul, Nat.reduceSub, Nat.reduceLeDiff, Nat.reduceLT, reduceCtorEq]
      suffices key11 : ∀ b, b = badK0 ps[k] d n k → K11 ⟨[(0, .v (.int .i64 n)), (1, .v (.slice aP ps.length cP)), (2, .v (.slice aD ds.length cD)), (7, .v (.int .i64 k)), (51, .v (.bool b))], [], F⟩ by
        clear hK5 hK9 hK10 hK11
        repeat' (first
          | (with_reducible refine And.intro (rowF_some hFP (ints_ne (by omega))) ?_)
          | (with_reducible refine And.intro (rowF_some hFD (slcs_ne (by omega))) ?_)
          | (with_reducible refine loadInt k hFP hgp ?_ ?_
             · rfl
             simp -implicitDefEqProofs only [push_cast, ↓reduceIte, Nat.reduceEqDiff, Nat.reduceAdd, Nat.reduceMul, Nat.reduceSub, Nat.reduceLeDiff, Nat.reduceLT, reduceCtorEq])
          | (with_reducible refine loadRow k hFD hgd ?_ ?_
             · rfl
             simp -implicitDefEqProofs only [push_cast, ↓reduceIte, Nat.reduceEqDiff, Nat.reduceAdd, Nat.reduceMul, Nat.reduceSub, Nat.reduceLeDiff, Nat.reduceLT, reduceCtorEq])
          | (with_reducible refine And.intro (by omega) ?_)
          | (with_reducible refine And.intro ?_ ?_)
          | intro h
          | exact rfl)
        all_goals (refine key11 _ ?_; clear key11; rw [Bool.eq_iff_iff]; simp only [badK0, Bool.or_eq_true, decide_eq_true_eq, Bool.false_eq_true, false_iff, true_iff, ne_eq]; omega)
      intro b hb
      subst hb
      refine hK11 _ ?_
      clear hK11
      refine SC.cond ?_
      simp -implicitDefEqProofs only [push_cast, ↓reduceIte, Nat.reduceEqDiff, Nat.reduceAdd, Nat.reduceMul, Nat.reduceSub, Nat.reduceLeDiff, Nat.reduceLT, reduceCtorEq]
      refine ⟨fun h3 => ?_, fun h3 => ?_⟩
      · skip
        refine SC.seqN [6] [] fun K12 hK12 => SC.region ?_
        simp -implicitDefEqProofs only [push_cast, ↓reduceIte, Nat.reduceEqDiff, Nat.reduceAdd, Nat.reduceMul, Nat.reduceSub, Nat.reduceLeDiff, Nat.reduceLT, reduceCtorEq]
        refine hK12 _ ?_
        clear hK12
        refine SC.ret ?_
        simp -implicitDefEqProofs only [push_cast, ↓reduceIte, Nat.reduceEqDiff, Nat.reduceAdd, Nat.reduceMul, Nat.reduceSub, Nat.reduceLeDiff, Nat.reduceLT, reduceCtorEq, Tryz.f64]
        have hb : badK ps ds n k = true := by
          simp only [badK, hgp, hgd]
          simp only [badK0] at h3
          simp only [Bool.or_eq_true] at h3 ⊢
          rcases h3 with h | h | h
          · exact .inl h
          · exact .inr (.inl h)
          · exact .inr (.inr (.inl h))
        rw [treeBad_at hk2 hk1 hb]; rfl
      · skip
        have hb0 := h3
        simp only [badK0, Bool.or_eq_false_iff, decide_eq_false_iff_not, ne_eq, Classical.not_not] at hb0
        refine SC.skip ?_
        simp -implicitDefEqProofs only [push_cast, ↓reduceIte, Nat.reduceEqDiff, Nat.reduceAdd, Nat.reduceMul, Nat.reduceSub, Nat.reduceLeDiff, Nat.reduceLT, reduceCtorEq]
        refine hK10 _ ?_
        clear hK10
        refine SC.seqN [0, 1, 2, 7, 8] [] fun K13 hK13 => SC.region ?_
        simp -implicitDefEqProofs only [push_cast, ↓reduceIte, Nat.reduceEqDiff, Nat.reduceAdd, Nat.reduceMul, Nat.reduceSub, Nat.reduceLeDiff, Nat.reduceLT, reduceCtorEq]
        refine hK13 _ ?_
        clear hK13
        refine SC.block ?_
        refine SC.loop (fun i : Nat => ⟨[(0, .v (.int .i64 n)), (1, .v (.slice aP ps.length cP)), (2, .v (.slice aD ds.length cD)), (7, .v (.int .i64 k)), (8, .v (.int .i64 i))], [], F⟩) (fun i => i ≤ n ∧ ∀ j x, j < i → d[j]? = some x → bigD x = false) (fun i => n - i) 0 (Le.refl _) ⟨Nat.zero_le _, fun j x h => absurd h (Nat.not_lt_zero j)⟩ fun i hi => ?_
        refine SC.seqN [0, 1, 2, 7, 8] [] fun K14 hK14 => ?_
        refine SC.seqN [0, 1, 2, 7, 8, 54] [] fun K15 hK15 => SC.region ?_
        simp -implicitDefEqProofs only [push_cast, ↓reduceIte, Nat.reduceEqDiff, Nat.reduceAdd, Nat.reduceMul, Nat.reduceSub, Nat.reduceLeDiff, Nat.reduceLT, reduceCtorEq]
        refine hK15 _ ?_
        clear hK15
        refine SC.cond ?_
        simp -implicitDefEqProofs only [push_cast, ↓reduceIte, Nat.reduceEqDiff, Nat.reduceAdd, Nat.reduceMul, Nat.reduceSub, Nat.reduceLeDiff, Nat.reduceLT, reduceCtorEq]
        refine ⟨fun h4 => ?_, fun h4 => ?_⟩
        · skip
          have hil : i < n := by omega
          have hgi : d[i]? = some (d[i]'(by omega)) := List.getElem?_eq_getElem (by omega)
          refine SC.skip ?_
          simp -implicitDefEqProofs only [push_cast, ↓reduceIte, Nat.reduceEqDiff, Nat.reduceAdd, Nat.reduceMul, Nat.reduceSub, Nat.reduceLeDiff, Nat.reduceLT, reduceCtorEq]
          refine hK14 _ ?_
          clear hK14
          refine SC.seqN [0, 1, 2, 7, 8] [] fun K16 hK16 => ?_
          refine SC.block ?_
          refine SC.seqN [0, 1, 2, 7, 8, 74] [] fun K17 hK17 => SC.region ?_
          simp -implicitDefEqProofs only [push_cast, ↓reduceIte, Nat.reduceEqDiff, Nat.reduceAdd, Nat.reduceMul, Nat.reduceSub, Nat.reduceLeDiff, Nat.reduceLT, reduceCtorEq]
          suffices key17 : ∀ b, b = bigD (d[i]'(by omega)) → K17 ⟨[(0, .v (.int .i64 n)), (1, .v (.slice aP ps.length cP)), (2, .v (.slice aD ds.length cD)), (7, .v (.int .i64 k)), (8, .v (.int .i64 i)), (74, .v (.bool b))], [], F⟩ by
            clear hK5 hK9 hK16 hK17
            repeat' (first
              | (with_reducible refine And.intro (rowF_some hFD (slcs_ne (by omega))) ?_)
              | (with_reducible refine And.intro (rowF_some hRk (ints_ne (by omega))) ?_)
              | (with_reducible refine loadRow k hFD hgd ?_ ?_
                 · rfl
                 simp -implicitDefEqProofs only [push_cast, ↓reduceIte, Nat.reduceEqDiff, Nat.reduceAdd, Nat.reduceMul, Nat.reduceSub, Nat.reduceLeDiff, Nat.reduceLT, reduceCtorEq])
              | (with_reducible refine loadInt i hRk hgi ?_ ?_
                 · rfl
                 simp -implicitDefEqProofs only [push_cast, ↓reduceIte, Nat.reduceEqDiff, Nat.reduceAdd, Nat.reduceMul, Nat.reduceSub, Nat.reduceLeDiff, Nat.reduceLT, reduceCtorEq])
              | (with_reducible refine And.intro (by omega) ?_)
              | (with_reducible refine And.intro ?_ ?_)
              | intro h
              | exact rfl)
            all_goals (refine key17 _ ?_; clear key17; rw [Bool.eq_iff_iff]; simp only [bigD, Bool.or_eq_true, decide_eq_true_eq, Bool.false_eq_true, false_iff, true_iff, ne_eq]; omega)
          intro b hb
          subst hb
          refine hK17 _ ?_
          clear hK17
          refine SC.cond ?_
          simp -implicitDefEqProofs only [push_cast, ↓reduceIte, Nat.reduceEqDiff, Nat.reduceAdd, Nat.reduceMul, Nat.reduceSub, Nat.reduceLeDiff, Nat.reduceLT, reduceCtorEq]
          refine ⟨fun h5 => ?_, fun h5 => ?_⟩
          · skip
            refine SC.seqN [6] [] fun K18 hK18 => SC.region ?_
            simp -implicitDefEqProofs only [push_cast, ↓reduceIte, Nat.reduceEqDiff, Nat.reduceAdd, Nat.reduceMul, Nat.reduceSub, Nat.reduceLeDiff, Nat.reduceLT, reduceCtorEq]
            refine hK18 _ ?_
            clear hK18
            refine SC.ret ?_
            simp -implicitDefEqProofs only [push_cast, ↓reduceIte, Nat.reduceEqDiff, Nat.reduceAdd, Nat.reduceMul, Nat.reduceSub, Nat.reduceLeDiff, Nat.reduceLT, reduceCtorEq, Tryz.f64]
            have hb : badK ps ds n k = true := by
              simp only [badK, hgp, hgd, Bool.or_eq_true]
              exact .inr (.inr (.inr (List.any_eq_true.2 ⟨_, List.getElem_mem _, h5⟩)))
            rw [treeBad_at hk2 hk1 hb]; rfl
          · skip
            refine SC.skip ?_
            simp -implicitDefEqProofs only [push_cast, ↓reduceIte, Nat.reduceEqDiff, Nat.reduceAdd, Nat.reduceMul, Nat.reduceSub, Nat.reduceLeDiff, Nat.reduceLT, reduceCtorEq]
            refine hK16 _ ?_
            clear hK16
            refine SC.region ?_
            simp -implicitDefEqProofs only [push_cast, ↓reduceIte, Nat.reduceEqDiff, Nat.reduceAdd, Nat.reduceMul, Nat.reduceSub, Nat.reduceLeDiff, Nat.reduceLT, reduceCtorEq]
            refine ⟨by omega, i + 1, ⟨by omega, fun j x hj hx => ?_⟩, by omega, Le.trans (Le.norm _ [0, 1, 2, 7, 8] []) ?_⟩
            · rcases Nat.lt_succ_iff_lt_or_eq.1 hj with hj | rfl
              · exact hi.2 j x hj hx
              · rw [hgi] at hx
                obtain rfl := Option.some.inj hx
                exact h5
            · simp -implicitDefEqProofs only [push_cast, ↓reduceIte, Nat.reduceEqDiff, Nat.reduceAdd, Nat.reduceMul, Nat.reduceSub, Nat.reduceLeDiff, Nat.reduceLT, reduceCtorEq]
              exact Le.refl _
        · skip
          have hany : d.any bigD = false := by
            rw [List.any_eq_false]
            intro x hx
            obtain ⟨j, hj⟩ := List.getElem?_of_mem hx
            simp [hi.2 j x (by have := (List.getElem?_eq_some_iff.1 hj).1; omega) hj]
          have hbK : badK ps ds n k = false := by
            simp only [badK, hgp, hgd, hany, Bool.or_eq_false_iff, decide_eq_false_iff_not, ne_eq, Classical.not_not, and_true]
            exact hb0
          refine SC.exit ?_
          simp -implicitDefEqProofs only [push_cast, ↓reduceIte, Nat.reduceEqDiff, Nat.reduceAdd, Nat.reduceMul, Nat.reduceSub, Nat.reduceLeDiff, Nat.reduceLT, reduceCtorEq]
          refine hK9 _ ?_
          clear hK9
          refine SC.region ?_
          simp -implicitDefEqProofs only [push_cast, ↓reduceIte, Nat.reduceEqDiff, Nat.reduceAdd, Nat.reduceMul, Nat.reduceSub, Nat.reduceLeDiff, Nat.reduceLT, reduceCtorEq]
          refine ⟨by omega, k + 1, ⟨by omega, by omega, fun j h1 h2 => ?_⟩, by omega, Le.trans (Le.norm _ [0, 1, 2, 7] []) ?_⟩
          · rcases Nat.lt_succ_iff_lt_or_eq.1 h2 with hj | rfl
            · exact hbk j h1 hj
            · exact hbK
          · simp -implicitDefEqProofs only [push_cast, ↓reduceIte, Nat.reduceEqDiff, Nat.reduceAdd, Nat.reduceMul, Nat.reduceSub, Nat.reduceLeDiff, Nat.reduceLT, reduceCtorEq]
            exact Le.refl _
    · skip
      refine SC.exit ?_
      simp -implicitDefEqProofs only [push_cast, ↓reduceIte, Nat.reduceEqDiff, Nat.reduceAdd, Nat.reduceMul, Nat.reduceSub, Nat.reduceLeDiff, Nat.reduceLT, reduceCtorEq]
      refine hK5 _ ?_
      clear hK5
      refine SC.seqN [6] [] fun K19 hK19 => SC.region ?_
      simp -implicitDefEqProofs only [push_cast, ↓reduceIte, Nat.reduceEqDiff, Nat.reduceAdd, Nat.reduceMul, Nat.reduceSub, Nat.reduceLeDiff, Nat.reduceLT, reduceCtorEq]
      refine hK19 _ ?_
      clear hK19
      refine SC.ret ?_
      simp -implicitDefEqProofs only [push_cast, ↓reduceIte, Nat.reduceEqDiff, Nat.reduceAdd, Nat.reduceMul, Nat.reduceSub, Nat.reduceLeDiff, Nat.reduceLT, reduceCtorEq, Tryz.f64]
      have hb : treeBad n ps ds = false := by
        simp only [treeBad, h1, Bool.false_or, List.any_eq_false, List.mem_range]
        intro j hj
        by_cases h0 : 1 ≤ j
        · simp [hbk j h0 (by omega)]
        · simp [h0]
      rw [hb]; rfl
end Go.Proofs.YtmamodnpghlgcaaGreatDoor
/- The specification's Spread. -/

set_option linter.unusedSimpArgs false
set_option linter.unusedVariables false
set_option maxRecDepth 100000
set_option maxHeartbeats 4000000
namespace Go.Proofs.YtmamodnpghlgcaaGreatDoor
open Go.RowKit
theorem slcs_snoc {aa aa' : Nat → Option Addr} {cc cc' : Nat → Nat} {outs : List (List Int)} {row : List Int} {m : Nat} {a : Option Addr} {c : Nat} (h : ∀ i, i < outs.length → aa' i = aa i ∧ cc' i = cc i) (ha : aa' outs.length = a) (hc : cc' outs.length = c) (hm : row.length = m) :
    slcs aa' cc' (outs ++ [row]) = slcs aa cc outs ++ [.slice a m c] := by
  unfold slcs
  rw [List.mapIdx_append]
  congr 1
  · apply List.ext_getElem
    · simp
    · intro i h1 h2
      have hi : i < outs.length := by simpa using h1
      simp [h i hi]
  · simp [ha, hc, hm]
theorem one1 {v : Value} (h : v.oneCell' = true) : ∀ y ∈ [v], y.oneCell' = true := fun y hy => by rw [List.mem_singleton] at hy; subst hy; exact h
theorem rowOf_succ (f : Nat → Int) (i : Nat) : ints (rowOf f (i + 1)) = ints (rowOf f i) ++ [.int .i64 (runMax f i)] := by simp [rowOf, ints, List.range_succ]
theorem rowOf_get (f : Nat → Int) {i j : Nat} (h : j < i) : (rowOf f i)[j]? = some (runMax f j) := by simp [rowOf, h]
def isTimes (rows : List (List Int)) (e : Int) (G : Fact) (v : Value) : Prop := ∃ ov, v = .agg #[ov, .int .i64 e] ∧ isIntss rows G ov
theorem refSpread_fn (l : List Seg) (ps : List Int) (ds : List (List Int)) (vL vP vD : Value) (F : Fact) (a : Option Addr) (c : Nat) (hvL : vL = .slice a l.length c) (hc : l.length ≤ c) (hF : F.to (rowF a (segsC l))) (hP : isInts ps F vP) (hD : isIntss ds F vD) (hll : l.length ≤ 100000) (hpl : ps.length ≤ 100000) (hdl : ds.length ≤ 100000) (hrd : ∀ d ∈ ds, d.length ≤ 100000) :
    Fn Tryz.prog 18 [vL, vP, vD] F fun v G => isTimes (spreadR l ps ds) (spreadE l ps ds) G v := by
  subst hvL
  have hP' := hP
  have hD' := hD
  obtain ⟨aP, cP, rfl, hcP, hFP⟩ := hP
  obtain ⟨aD, cD, aa0, cc0, rfl, hcD, hFD, hRD⟩ := hD
  refine Fn.of_body Tryz.func18 rfl (Nat.le_of_ble_eq_true rfl) (Nat.le_of_ble_eq_true rfl) (by kernel_rfl) ?_
  refine SC.seqN [0, 1, 2, 6] [.l 6, .l 81, .l 82, .l 86, .l 87, .l 900, .l 901] fun K1 hK1 => SC.region ?_
  simp -implicitDefEqProofs only [push_cast, ↓reduceIte, Nat.reduceEqDiff, Nat.reduceAdd, Nat.reduceMul, Nat.reduceSub, Nat.reduceLeDiff, Nat.reduceLT, reduceCtorEq]
  refine hK1 _ ?_
  clear hK1
  refine SC.seqN [0, 1, 2, 6, 7] [.l 6, .l 81, .l 82, .l 86, .l 87, .l 900, .l 901] fun K2 hK2 => SC.region ?_
  simp -implicitDefEqProofs only [push_cast, ↓reduceIte, Nat.reduceEqDiff, Nat.reduceAdd, Nat.reduceMul, Nat.reduceSub, Nat.reduceLeDiff, Nat.reduceLT, reduceCtorEq]
  refine callL_fn0 (refStream_fn l a c F hF (by omega)) rfl (fun _ h => h) fun v G hv => ?_
  subst hv
  simp -implicitDefEqProofs only [push_cast, ↓reduceIte, Nat.reduceEqDiff, Nat.reduceAdd, Nat.reduceMul, Nat.reduceSub, Nat.reduceLeDiff, Nat.reduceLT, reduceCtorEq]
  refine hK2 _ ?_
  clear hK2
  refine SC.seqN [0, 1, 2, 6] [.l 6, .l 81, .l 82, .l 86, .l 87, .l 900, .l 901] fun K3 hK3 => ?_
  refine SC.seqN [0, 1, 2, 6, 24] [.l 6, .l 81, .l 82, .l 86, .l 87, .l 900, .l 901] fun K4 hK4 => SC.region ?_
  simp -implicitDefEqProofs only [push_cast, ↓reduceIte, Nat.reduceEqDiff, Nat.reduceAdd, Nat.reduceMul, Nat.reduceSub, Nat.reduceLeDiff, Nat.reduceLT, reduceCtorEq]
  suffices key4 : ∀ b, b = spreadBad l ps ds → K4 ⟨[(0, .v (.slice a l.length c)), (1, .v (.slice aP ps.length cP)), (2, .v (.slice aD ds.length cD)), (6, .own (.l 6) 0), (24, .v (.bool b))], [(.l 6, .box [.v (.slice none 0 0), .v (.int .i64 0)] 49)], F⟩ by
    clear hK3 hK4
    rw [spreadBad_eq] at key4
    cases hS : streamB l
    all_goals simp -implicitDefEqProofs only [push_cast, ↓reduceIte, Nat.reduceEqDiff, Nat.reduceAdd, Nat.reduceMul, Nat.reduceSub, Nat.reduceLeDiff, Nat.reduceLT, reduceCtorEq]
    repeat' (first
      | (exfalso; assumption)
      | exact key4 _ (by rw [hS]; rfl)
      | (with_reducible refine callL_fn0 (tree_fn l.length ps ds _ _ F hll hP' hD' hpl hdl hrd) ?_ (fun _ h => h) ?_
         · rfl
         intro v G hv
         subst hv
         simp -implicitDefEqProofs only [push_cast, ↓reduceIte, Nat.reduceEqDiff, Nat.reduceAdd, Nat.reduceMul, Nat.reduceSub, Nat.reduceLeDiff, Nat.reduceLT, reduceCtorEq])
      | exact key4 _ (by rw [hS]; simp)
      | (with_reducible refine And.intro (by omega) ?_)
      | (with_reducible refine And.intro ?_ ?_)
      | intro h
      | exact rfl)
  intro b hb
  subst hb
  refine hK4 _ ?_
  clear hK4
  refine SC.cond ?_
  simp -implicitDefEqProofs only [push_cast, ↓reduceIte, Nat.reduceEqDiff, Nat.reduceAdd, Nat.reduceMul, Nat.reduceSub, Nat.reduceLeDiff, Nat.reduceLT, reduceCtorEq]
  refine ⟨fun h1 => ?_, fun h1 => ?_⟩
  · skip
    refine SC.seqN [6] [.l 6, .l 81, .l 82, .l 86, .l 87, .l 900, .l 901] fun K5 hK5 => SC.region ?_
    simp -implicitDefEqProofs only [push_cast, ↓reduceIte, Nat.reduceEqDiff, Nat.reduceAdd, Nat.reduceMul, Nat.reduceSub, Nat.reduceLeDiff, Nat.reduceLT, reduceCtorEq]
    refine hK5 _ ?_
    clear hK5
    refine SC.ret ?_
    simp -implicitDefEqProofs only [push_cast, ↓reduceIte, Nat.reduceEqDiff, Nat.reduceAdd, Nat.reduceMul, Nat.reduceSub, Nat.reduceLeDiff, Nat.reduceLT, reduceCtorEq, Tryz.f18]
    exact ⟨_, by rw [spreadE, if_pos h1], by rw [spreadR, if_pos h1]; exact isIntss_nil _⟩
  · skip
    have hbb := h1
    rw [spreadBad, Bool.or_eq_false_iff] at hbb
    have hbt := hbb.1
    simp only [badTop, Bool.or_eq_false_iff, decide_eq_false_iff_not, Bool.not_eq_false', Classical.not_not] at hbt
    obtain ⟨hst0, hp1, hp2, hdl2⟩ := hbt
    have hbK : ∀ k, 1 ≤ k → k < ps.length → badK ps ds l.length k = false := by
      intro k h1 h2
      have := List.any_eq_false.1 hbb.2 k (List.mem_range.2 h2)
      simpa [h1] using this
    have hs := stream_ok hst0
    have hfin := stream_fin hst0
    refine SC.skip ?_
    simp -implicitDefEqProofs only [push_cast, ↓reduceIte, Nat.reduceEqDiff, Nat.reduceAdd, Nat.reduceMul, Nat.reduceSub, Nat.reduceLeDiff, Nat.reduceLT, reduceCtorEq]
    refine hK3 _ ?_
    clear hK3
    refine SC.seqN [0, 1, 2, 6, 8] [.l 6, .l 8, .l 81, .l 82, .l 86, .l 87, .l 900, .l 901] fun K6 hK6 => SC.region ?_
    simp -implicitDefEqProofs only [push_cast, ↓reduceIte, Nat.reduceEqDiff, Nat.reduceAdd, Nat.reduceMul, Nat.reduceSub, Nat.reduceLeDiff, Nat.reduceLT, reduceCtorEq]
    refine hK6 _ ?_
    clear hK6
    refine SC.adB (k := .l 8) (j := 0) (q := 900) (et := 43) (sz := 1) rfl rfl (by decide) (by simp -implicitDefEqProofs only [push_cast, ↓reduceIte, Nat.reduceEqDiff, Nat.reduceAdd, Nat.reduceMul, Nat.reduceSub, Nat.reduceLeDiff, Nat.reduceLT, reduceCtorEq]) (by simp -implicitDefEqProofs only [push_cast, ↓reduceIte, Nat.reduceEqDiff, Nat.reduceAdd, Nat.reduceMul, Nat.reduceSub, Nat.reduceLeDiff, Nat.reduceLT, reduceCtorEq]) ?_
    simp -implicitDefEqProofs only [push_cast, ↓reduceIte, Nat.reduceEqDiff, Nat.reduceAdd, Nat.reduceMul, Nat.reduceSub, Nat.reduceLeDiff, Nat.reduceLT, reduceCtorEq]
    refine SC.seqN [6, 8] [.l 6, .l 8, .l 81, .l 82, .l 86, .l 87, .l 900, .l 901] fun K7 hK7 => ?_
    refine SC.seqN [0, 1, 2, 6, 8, 9] [.l 6, .l 8, .l 81, .l 82, .l 86, .l 87, .l 900, .l 901] fun K8 hK8 => SC.region ?_
    simp -implicitDefEqProofs only [push_cast, ↓reduceIte, Nat.reduceEqDiff, Nat.reduceAdd, Nat.reduceMul, Nat.reduceSub, Nat.reduceLeDiff, Nat.reduceLT, reduceCtorEq]
    refine hK8 _ ?_
    clear hK8
    refine SC.block ?_
    refine SC.loop (fun x : SprI => ⟨[(0, .v (.slice a l.length c)), (1, .v (.slice aP ps.length cP)), (2, .v (.slice aD ds.length cD)), (6, .own (.l 6) 0), (8, .own (.l 8) 0), (9, .v (.int .i64 x.outs.length))], [(.l 6, .box [.v (.slice none 0 0), .v (.int .i64 0)] 49), (.l 8, .box [.row (.l 900), .v (.int .i64 0)] 49), (.l 900, .row 43 1 x.outs.length (slcs x.aa x.cc x.outs))], x.F⟩) (fun x => x.outs.length ≤ ps.length ∧ x.outs = spreadRows l ps ds x.outs.length ∧ x.F.to F ∧ rowsOk x.F x.aa x.cc x.outs ∧ rowsBd x.outs) (fun x => ps.length - x.outs.length) ⟨[], fun _ => none, fun _ => 0, F⟩ (Le.refl _) ⟨Nat.zero_le _, rfl, Fact.to_refl _, fun i l h => by simp at h, fun j r x h => by simp at h⟩ fun x hx => ?_
    obtain ⟨outs, aa, cc, Fx⟩ := x
    simp only at hx
    obtain ⟨hk3, hsr, htx, hro, hrb⟩ := hx
    have hFPx : Fx.to (rowF aP (ints ps)) := Fact.to_trans htx hFP
    have hFDx : Fx.to (rowF aD (slcs aa0 cc0 ds)) := Fact.to_trans htx hFD
    have hFx : Fx.to (rowF a (segsC l)) := Fact.to_trans htx hF
    refine SC.seqN [0, 1, 2, 6, 8, 9] [.l 6, .l 8, .l 81, .l 82, .l 86, .l 87, .l 900, .l 901] fun K9 hK9 => ?_
    refine SC.seqN [0, 1, 2, 6, 8, 9, 29] [.l 6, .l 8, .l 81, .l 82, .l 86, .l 87, .l 900, .l 901] fun K10 hK10 => SC.region ?_
    simp -implicitDefEqProofs only [push_cast, ↓reduceIte, Nat.reduceEqDiff, Nat.reduceAdd, Nat.reduceMul, Nat.reduceSub, Nat.reduceLeDiff, Nat.reduceLT, reduceCtorEq]
    refine hK10 _ ?_
    clear hK10
    refine SC.cond ?_
    simp -implicitDefEqProofs only [push_cast, ↓reduceIte, Nat.reduceEqDiff, Nat.reduceAdd, Nat.reduceMul, Nat.reduceSub, Nat.reduceLeDiff, Nat.reduceLT, reduceCtorEq]
    refine ⟨fun h2 => ?_, fun h2 => ?_⟩
    · skip
      have hk2 : outs.length < ps.length := by omega
      have hgp : ps[outs.length]? = some ps[outs.length] := List.getElem?_eq_getElem hk2
      have hgd : ds[outs.length]? = some (ds[outs.length]'(by omega)) := List.getElem?_eq_getElem (by omega)
      have hRD3 : Fx.to (rowF (aa0 outs.length) (ints (ds[outs.length]'(by omega)))) := Fact.to_trans htx (hRD _ _ hgd).2
      have hrows : ∀ i, i < outs.length → ∃ po, outs[i]? = some po ∧ po.length = l.length ∧ Fx.to (rowF (aa i) (ints po)) := by
        intro i hi
        obtain ⟨f, hf⟩ := spreadRows_row (l := l) (ps := ps) (ds := ds) hi
        rw [← hsr] at hf
        exact ⟨_, hf, rowOf_length _ _, (hro i _ hf).2⟩
      have hq : 0 < outs.length → (0 ≤ ps[outs.length] ∧ ps[outs.length] < outs.length) ∧ (ds[outs.length]'(by omega)).length = l.length ∧ (ds[outs.length]'(by omega)).any bigD = false := by
        intro h0
        have := hbK outs.length h0 hk2
        simp only [badK, hgp, hgd, Bool.or_eq_false_iff, decide_eq_false_iff_not, Classical.not_not, ne_eq] at this
        exact ⟨⟨by omega, by omega⟩, this.2.2⟩
      obtain ⟨f, hf⟩ : ∃ f, f = if outs.length = 0 then finA l else delayA outs ps ds outs.length := ⟨_, rfl⟩
      have hbd1 : ∀ i, i < l.length → 0 ≤ f i ∧ f i ≤ 1100000000000 * ((outs.length : Int) + 1) := by
        intro i hi
        rw [hf]
        split
        · have := hfin i hi; omega
        · rename_i h0
          obtain ⟨h1, h2, h3⟩ := hq (by omega)
          obtain ⟨po, hpo, hpl, _⟩ := hrows (ps[outs.length]).toNat (by omega)
          have hv1 : po[i]? = some (po[i]'(by omega)) := List.getElem?_eq_getElem (by omega)
          have hv2 : (ds[outs.length]'(by omega))[i]? = some ((ds[outs.length]'(by omega))[i]'(by omega)) := List.getElem?_eq_getElem (by omega)
          simp only [delayA, getD2, List.getD_eq_getElem?_getD, hgp, hgd, hpo, hv1, hv2, Option.getD_some]
          have h1 := hrb _ po (po[i]'(by omega)) hpo (List.getElem_mem _)
          have h2 := List.any_eq_false.1 h3 ((ds[outs.length]'(by omega))[i]'(by omega)) (List.getElem_mem _)
          simp only [bigD, Bool.or_eq_true, decide_eq_true_eq, not_or] at h2
          omega
      refine SC.skip ?_
      simp -implicitDefEqProofs only [push_cast, ↓reduceIte, Nat.reduceEqDiff, Nat.reduceAdd, Nat.reduceMul, Nat.reduceSub, Nat.reduceLeDiff, Nat.reduceLT, reduceCtorEq]
      refine hK9 _ ?_
      clear hK9
      refine SC.seqN [0, 1, 2, 6, 8, 9] [.l 6, .l 8, .l 81, .l 82, .l 86, .l 87, .l 900, .l 901] fun K11 hK11 => ?_
      refine SC.block ?_
      refine SC.seqN [0, 1, 2, 6, 8, 9, 10] [.l 6, .l 8, .l 81, .l 82, .l 86, .l 87, .l 900, .l 901] fun K12 hK12 => SC.region ?_
      simp -implicitDefEqProofs only [push_cast, ↓reduceIte, Nat.reduceEqDiff, Nat.reduceAdd, Nat.reduceMul, Nat.reduceSub, Nat.reduceLeDiff, Nat.reduceLT, reduceCtorEq]
      refine hK12 _ ?_
      clear hK12
      refine SC.adT (i := 10) (q := 901) (et := 3) (sz := 1) rfl (by simp -implicitDefEqProofs only [push_cast, ↓reduceIte, Nat.reduceEqDiff, Nat.reduceAdd, Nat.reduceMul, Nat.reduceSub, Nat.reduceLeDiff, Nat.reduceLT, reduceCtorEq]) (by simp -implicitDefEqProofs only [push_cast, ↓reduceIte, Nat.reduceEqDiff, Nat.reduceAdd, Nat.reduceMul, Nat.reduceSub, Nat.reduceLeDiff, Nat.reduceLT, reduceCtorEq]) ?_
      simp -implicitDefEqProofs only [push_cast, ↓reduceIte, Nat.reduceEqDiff, Nat.reduceAdd, Nat.reduceMul, Nat.reduceSub, Nat.reduceLeDiff, Nat.reduceLT, reduceCtorEq]
      refine SC.seqN [0, 1, 2, 6, 8, 9, 10] [.l 6, .l 8, .l 81, .l 82, .l 86, .l 87, .l 900, .l 901] fun K13 hK13 => ?_
      refine SC.seqN [0, 1, 2, 6, 8, 9, 10, 11] [.l 6, .l 8, .l 81, .l 82, .l 86, .l 87, .l 900, .l 901] fun K14 hK14 => SC.region ?_
      simp -implicitDefEqProofs only [push_cast, ↓reduceIte, Nat.reduceEqDiff, Nat.reduceAdd, Nat.reduceMul, Nat.reduceSub, Nat.reduceLeDiff, Nat.reduceLT, reduceCtorEq]
      refine hK14 _ ?_
      clear hK14
      refine SC.block ?_
      refine SC.loop (fun i : Nat => ⟨[(0, .v (.slice a l.length c)), (1, .v (.slice aP ps.length cP)), (2, .v (.slice aD ds.length cD)), (6, .own (.l 6) 0), (8, .own (.l 8) 0), (9, .v (.int .i64 outs.length)), (10, .row (.l 901)), (11, .v (.int .i64 i))], [(.l 6, .box [.v (.slice none 0 0), .v (.int .i64 0)] 49), (.l 8, .box [.row (.l 900), .v (.int .i64 0)] 49), (.l 900, .row 43 1 outs.length (slcs aa cc outs)), (.l 901, .row 3 1 i (ints (rowOf f i)))], Fx⟩) (fun i => i ≤ l.length) (fun i => l.length - i) 0 (Le.refl _) (Nat.zero_le _) fun i hi => ?_
      refine SC.seqN [0, 1, 2, 6, 8, 9, 10, 11] [.l 6, .l 8, .l 81, .l 82, .l 86, .l 87, .l 900, .l 901] fun K15 hK15 => ?_
      refine SC.seqN [0, 1, 2, 6, 8, 9, 10, 11, 35] [.l 6, .l 8, .l 81, .l 82, .l 86, .l 87, .l 900, .l 901] fun K16 hK16 => SC.region ?_
      simp -implicitDefEqProofs only [push_cast, ↓reduceIte, Nat.reduceEqDiff, Nat.reduceAdd, Nat.reduceMul, Nat.reduceSub, Nat.reduceLeDiff, Nat.reduceLT, reduceCtorEq]
      refine hK16 _ ?_
      clear hK16
      refine SC.cond ?_
      simp -implicitDefEqProofs only [push_cast, ↓reduceIte, Nat.reduceEqDiff, Nat.reduceAdd, Nat.reduceMul, Nat.reduceSub, Nat.reduceLeDiff, Nat.reduceLT, reduceCtorEq]
      refine ⟨fun h3 => ?_, fun h3 => ?_⟩
      · skip
        have hil : i < l.length := by omega
        have hgl : l[i]? = some l[i] := List.getElem?_eq_getElem hil
        have hsk := hs _ (List.getElem_mem hil)
        have hfe : finA l i = l[i].beg + l[i].len := by simp [finA, hgl, Seg.fin]
        have hbdi := hbd1 i hil
        refine SC.skip ?_
        simp -implicitDefEqProofs only [push_cast, ↓reduceIte, Nat.reduceEqDiff, Nat.reduceAdd, Nat.reduceMul, Nat.reduceSub, Nat.reduceLeDiff, Nat.reduceLT, reduceCtorEq]
        refine hK15 _ ?_
        clear hK15
        refine SC.seqN [0, 1, 2, 6, 8, 9, 10, 11] [.l 6, .l 8, .l 81, .l 82, .l 86, .l 87, .l 900, .l 901] fun K17 hK17 => ?_
        refine SC.block ?_
        refine SC.seqN [0, 1, 2, 6, 8, 9, 10, 11, 12] [.l 6, .l 8, .l 81, .l 82, .l 86, .l 87, .l 900, .l 901] fun K18 hK18 => SC.drawnP (.take 0 (.take 1 (.take 2 (.take 3 (.take 5 (.take 6 (.take 7 (.take 8 (.load 4 (.load 9 (.take 10 (.take 11 (.done))))))))))))) (by kernel_rfl) (by kernel_rfl) (fun _ _ h => h) ?_
        simp -implicitDefEqProofs only [push_cast, ↓reduceIte, Nat.reduceEqDiff, Nat.reduceAdd, Nat.reduceMul, Nat.reduceSub, Nat.reduceLeDiff, Nat.reduceLT, reduceCtorEq]
        suffices key18 : K18 ⟨[(0, .v (.slice a l.length c)), (1, .v (.slice aP ps.length cP)), (2, .v (.slice aD ds.length cD)), (6, .own (.l 6) 0), (8, .own (.l 8) 0), (9, .v (.int .i64 outs.length)), (10, .row (.l 901)), (11, .v (.int .i64 i)), (12, .v (.int .i64 (finA l i)))], [(.l 6, .box [.v (.slice none 0 0), .v (.int .i64 0)] 49), (.l 8, .box [.row (.l 900), .v (.int .i64 0)] 49), (.l 900, .row 43 1 outs.length (slcs aa cc outs)), (.l 901, .row 3 1 i (ints (rowOf f i)))], Fx⟩ by
          clear hK7 hK11 hK13 hK17 hK18
          rw [hfe] at key18
          unfold Seg.Ok at hsk
          repeat' (first
            | exact key18
            | (with_reducible refine And.intro (rowF_some hFx (segsC_ne (by omega))) ?_)
            | (with_reducible refine loadSegC i hFx hgl ?_ ?_ ?_
               · omega
               · omega
               simp -implicitDefEqProofs only [push_cast, ↓reduceIte, Nat.reduceEqDiff, Nat.reduceAdd, Nat.reduceMul, Nat.reduceSub, Nat.reduceLeDiff, Nat.reduceLT, reduceCtorEq, segC])
            | (with_reducible refine And.intro (by omega) ?_)
            | (with_reducible refine And.intro ?_ ?_)
            | intro h
            | exact rfl)
        refine hK18 _ ?_
        clear hK18
        refine SC.seqM [0, 1, 2, 6, 8, 9, 10, 11, 12] [.l 6, .l 8, .l 81, .l 82, .l 86, .l 87, .l 900, .l 901] fun K19 hK19 hJ19 => ?_
        have key19 : K19 ⟨[(0, .v (.slice a l.length c)), (1, .v (.slice aP ps.length cP)), (2, .v (.slice aD ds.length cD)), (6, .own (.l 6) 0), (8, .own (.l 8) 0), (9, .v (.int .i64 outs.length)), (10, .row (.l 901)), (11, .v (.int .i64 i)), (12, .v (.int .i64 (f i)))], [(.l 6, .box [.v (.slice none 0 0), .v (.int .i64 0)] 49), (.l 8, .box [.row (.l 900), .v (.int .i64 0)] 49), (.l 900, .row 43 1 outs.length (slcs aa cc outs)), (.l 901, .row 3 1 i (ints (rowOf f i)))], Fx⟩ := by
          refine hK19 _ ?_
          refine SC.seqM [0, 1, 2, 6, 8, 9, 10, 11, 12] [.l 6, .l 8, .l 81, .l 82, .l 86, .l 87, .l 900, .l 901] fun K20 hK20 hJ20 => ?_
          have key20 : K20 ⟨[(0, .v (.slice a l.length c)), (1, .v (.slice aP ps.length cP)), (2, .v (.slice aD ds.length cD)), (6, .own (.l 6) 0), (8, .own (.l 8) 0), (9, .v (.int .i64 outs.length)), (10, .row (.l 901)), (11, .v (.int .i64 i)), (12, .v (.int .i64 (runMax f i)))], [(.l 6, .box [.v (.slice none 0 0), .v (.int .i64 0)] 49), (.l 8, .box [.row (.l 900), .v (.int .i64 0)] 49), (.l 900, .row 43 1 outs.length (slcs aa cc outs)), (.l 901, .row 3 1 i (ints (rowOf f i)))], Fx⟩ := by
            refine hK20 _ ?_
            refine SC.region ?_
            simp -implicitDefEqProofs only [push_cast, ↓reduceIte, Nat.reduceEqDiff, Nat.reduceAdd, Nat.reduceMul, Nat.reduceSub, Nat.reduceLeDiff, Nat.reduceLT, reduceCtorEq]
            suffices hk : K17 ⟨[(0, .v (.slice a l.length c)), (1, .v (.slice aP ps.length cP)), (2, .v (.slice aD ds.length cD)), (6, .own (.l 6) 0), (8, .own (.l 8) 0), (9, .v (.int .i64 outs.length)), (10, .row (.l 82)), (11, .v (.int .i64 i))], [(.l 6, .box [.v (.slice none 0 0), .v (.int .i64 0)] 49), (.l 8, .box [.row (.l 900), .v (.int .i64 0)] 49), (.l 81, .row 3 1 1 [.int .i64 (runMax f i)]), (.l 82, .row 3 1 (i + 1) (ints (rowOf f i) ++ [.int .i64 (runMax f i)])), (.l 900, .row 43 1 outs.length (slcs aa cc outs))], Fx⟩ by
              repeat' (first
                | exact hk
                | (with_reducible exact one1 rfl)
                | (with_reducible refine And.intro (by omega) ?_)
                | (with_reducible refine And.intro ?_ ?_)
                | intro h
                | exact rfl)
              all_goals (first | omega | (rw [mxl]; omega) | exact rfl)
            refine hK17 _ ?_
            clear hK17
            refine SC.of_le ?_ (Le.sw _ [(82, 901)])
            simp -implicitDefEqProofs only [push_cast, ↓reduceIte, Nat.reduceEqDiff, Nat.reduceAdd, Nat.reduceMul, Nat.reduceSub, Nat.reduceLeDiff, Nat.reduceLT, reduceCtorEq]
            refine SC.region ?_
            simp -implicitDefEqProofs only [push_cast, ↓reduceIte, Nat.reduceEqDiff, Nat.reduceAdd, Nat.reduceMul, Nat.reduceSub, Nat.reduceLeDiff, Nat.reduceLT, reduceCtorEq]
            refine ⟨by omega, i + 1, by omega, by omega, Le.trans (Le.norm _ [0, 1, 2, 6, 8, 9, 10, 11] [.l 6, .l 8, .l 900, .l 901]) ?_⟩
            simp -implicitDefEqProofs only [push_cast, ↓reduceIte, Nat.reduceEqDiff, Nat.reduceAdd, Nat.reduceMul, Nat.reduceSub, Nat.reduceLeDiff, Nat.reduceLT, reduceCtorEq]
            rw [rowOf_succ]
            exact Le.refl _
          refine SC.seqN [0, 1, 2, 6, 8, 9, 10, 11, 12, 71] [.l 6, .l 8, .l 81, .l 82, .l 86, .l 87, .l 900, .l 901] fun K21 hK21 => SC.region ?_
          simp -implicitDefEqProofs only [push_cast, ↓reduceIte, Nat.reduceEqDiff, Nat.reduceAdd, Nat.reduceMul, Nat.reduceSub, Nat.reduceLeDiff, Nat.reduceLT, reduceCtorEq]
          refine hK21 _ ?_
          clear hK21
          refine SC.cond ?_
          simp -implicitDefEqProofs only [push_cast, ↓reduceIte, Nat.reduceEqDiff, Nat.reduceAdd, Nat.reduceMul, Nat.reduceSub, Nat.reduceLeDiff, Nat.reduceLT, reduceCtorEq]
          refine ⟨fun h4 => ?_, fun h4 => ?_⟩
          · skip
            refine SC.region ?_
            simp -implicitDefEqProofs only [push_cast, ↓reduceIte, Nat.reduceEqDiff, Nat.reduceAdd, Nat.reduceMul, Nat.reduceSub, Nat.reduceLeDiff, Nat.reduceLT, reduceCtorEq]
            have hg1 : (rowOf f i)[i - 1]? = some (runMax f (i - 1)) := rowOf_get f (by omega)
            have ht1 : (((i : Int)) - 1).toNat = i - 1 := by omega
            refine ⟨by omega, by omega, ?_⟩
            simp only [ht1, Nat.mul_one, idx_ints, hg1, push_cast, ↓reduceIte, Nat.reduceEqDiff, Nat.reduceAdd, Nat.reduceMul, Nat.reduceSub, Nat.reduceLeDiff, Nat.reduceLT, reduceCtorEq]
            rw [← runMax_succ f (by omega)]
            exact key20
          · skip
            refine SC.skip ?_
            simp -implicitDefEqProofs only [push_cast, ↓reduceIte, Nat.reduceEqDiff, Nat.reduceAdd, Nat.reduceMul, Nat.reduceSub, Nat.reduceLeDiff, Nat.reduceLT, reduceCtorEq]
            have h0 : i = 0 := by omega
            subst h0
            exact key20
        refine SC.seqN [0, 1, 2, 6, 8, 9, 10, 11, 12, 50] [.l 6, .l 8, .l 81, .l 82, .l 86, .l 87, .l 900, .l 901] fun K22 hK22 => SC.region ?_
        simp -implicitDefEqProofs only [push_cast, ↓reduceIte, Nat.reduceEqDiff, Nat.reduceAdd, Nat.reduceMul, Nat.reduceSub, Nat.reduceLeDiff, Nat.reduceLT, reduceCtorEq]
        refine hK22 _ ?_
        clear hK22
        refine SC.cond ?_
        simp -implicitDefEqProofs only [push_cast, ↓reduceIte, Nat.reduceEqDiff, Nat.reduceAdd, Nat.reduceMul, Nat.reduceSub, Nat.reduceLeDiff, Nat.reduceLT, reduceCtorEq]
        refine ⟨fun h5 => ?_, fun h5 => ?_⟩
        · skip
          refine SC.drawnP (.take 0 (.take 2 (.take 3 (.take 4 (.take 8 (.take 11 (.take 12 (.take 13 (.take 15 (.load 5 (.load 14 (.take 16 (.load 17 (.forkE 1 [55, 64, 67] (.take 6 (.load 7 (.take 9 (.load 10 (.take 18 (.take 19 (.done))))))) (.stop))))))))))))))) (by kernel_rfl) (by kernel_rfl) (fun _ _ h => h) ?_
          simp -implicitDefEqProofs only [push_cast, ↓reduceIte, Nat.reduceEqDiff, Nat.reduceAdd, Nat.reduceMul, Nat.reduceSub, Nat.reduceLeDiff, Nat.reduceLT, reduceCtorEq]
          have h50 : 0 < outs.length := by omega
          obtain ⟨hq0, hq2, hq3⟩ := hq h50
          obtain ⟨po, hpo, hpl, hpr⟩ := hrows (ps[outs.length]).toNat (by omega)
          have hgo : (slcs aa cc outs)[(ps[outs.length]).toNat * 1]? = some (.slice (aa (ps[outs.length]).toNat) po.length (cc (ps[outs.length]).toNat)) := by rw [Nat.mul_one]; exact slcs_get hpo
          have hv1 : po[i]? = some (po[i]'(by omega)) := List.getElem?_eq_getElem (by omega)
          have hv2 : (ds[outs.length]'(by omega))[i]? = some ((ds[outs.length]'(by omega))[i]'(by omega)) := List.getElem?_eq_getElem (by omega)
          have hdl : f i = (po[i]'(by omega)) + ((ds[outs.length]'(by omega))[i]'(by omega)) := by
            rw [hf, if_neg (by omega)]
            simp only [delayA, getD2, List.getD_eq_getElem?_getD, hgp, hgd, hpo, hv1, hv2, Option.getD_some]
          rw [hdl] at key19 hbdi
          repeat' (first
            | exact key19
            | (with_reducible refine And.intro (rowF_some hFPx (ints_ne (by omega))) ?_)
            | (with_reducible refine And.intro (rowF_some hFDx (slcs_ne (by omega))) ?_)
            | (with_reducible refine And.intro (rowF_some hRD3 (ints_ne (by omega))) ?_)
            | (with_reducible refine And.intro (rowF_some hpr (ints_ne (by omega))) ?_)
            | (with_reducible refine loadInt outs.length hFPx hgp ?_ ?_
               · rfl
               simp -implicitDefEqProofs only [push_cast, ↓reduceIte, Nat.reduceEqDiff, Nat.reduceAdd, Nat.reduceMul, Nat.reduceSub, Nat.reduceLeDiff, Nat.reduceLT, reduceCtorEq])
            | (with_reducible refine loadRow outs.length hFDx hgd ?_ ?_
               · rfl
               simp -implicitDefEqProofs only [push_cast, ↓reduceIte, Nat.reduceEqDiff, Nat.reduceAdd, Nat.reduceMul, Nat.reduceSub, Nat.reduceLeDiff, Nat.reduceLT, reduceCtorEq])
            | (with_reducible refine loadInt i hRD3 hv2 ?_ ?_
               · rfl
               simp -implicitDefEqProofs only [push_cast, ↓reduceIte, Nat.reduceEqDiff, Nat.reduceAdd, Nat.reduceMul, Nat.reduceSub, Nat.reduceLeDiff, Nat.reduceLT, reduceCtorEq])
            | (with_reducible refine loadInt i hpr hv1 ?_ ?_
               · rfl
               simp -implicitDefEqProofs only [push_cast, ↓reduceIte, Nat.reduceEqDiff, Nat.reduceAdd, Nat.reduceMul, Nat.reduceSub, Nat.reduceLeDiff, Nat.reduceLT, reduceCtorEq])
            | (simp only [idx_vals, hgo, Option.map_some, push_cast, ↓reduceIte, Nat.reduceEqDiff, Nat.reduceAdd, Nat.reduceMul, Nat.reduceSub, Nat.reduceLeDiff, Nat.reduceLT, reduceCtorEq])
            | (with_reducible refine And.intro (by omega) ?_)
            | (with_reducible refine And.intro ?_ ?_)
            | intro h
            | exact rfl)
        · skip
          refine SC.skip ?_
          simp -implicitDefEqProofs only [push_cast, ↓reduceIte, Nat.reduceEqDiff, Nat.reduceAdd, Nat.reduceMul, Nat.reduceSub, Nat.reduceLeDiff, Nat.reduceLT, reduceCtorEq]
          have h0 : outs.length = 0 := by omega
          have hfi : f i = finA l i := by rw [hf, if_pos h0]
          rw [hfi] at key19
          exact key19
      · skip
        refine SC.exit ?_
        simp -implicitDefEqProofs only [push_cast, ↓reduceIte, Nat.reduceEqDiff, Nat.reduceAdd, Nat.reduceMul, Nat.reduceSub, Nat.reduceLeDiff, Nat.reduceLT, reduceCtorEq]
        refine hK13 _ ?_
        clear hK13
        have hin : i = l.length := by omega
        refine SC.frzRow (k := .l 901) rfl (by rw [ints_length, rowOf_length]; omega) fun aN bN cN hcN => ?_
        simp -implicitDefEqProofs only [push_cast, ↓reduceIte, Nat.reduceEqDiff, Nat.reduceAdd, Nat.reduceMul, Nat.reduceSub, Nat.reduceLeDiff, Nat.reduceLT, reduceCtorEq]
        refine SC.region ?_
        simp -implicitDefEqProofs only [push_cast, ↓reduceIte, Nat.reduceEqDiff, Nat.reduceAdd, Nat.reduceMul, Nat.reduceSub, Nat.reduceLeDiff, Nat.reduceLT, reduceCtorEq]
        suffices hk : K11 ⟨[(0, .v (.slice a l.length c)), (1, .v (.slice aP ps.length cP)), (2, .v (.slice aD ds.length cD)), (6, .own (.l 6) 0), (8, .own (.l 8) 0), (9, .v (.int .i64 outs.length))], [(.l 6, .box [.v (.slice none 0 0), .v (.int .i64 0)] 49), (.l 8, .box [.row (.l 87), .v (.int .i64 0)] 49), (.l 86, .row 43 1 1 [.slice aN i cN]), (.l 87, .row 43 1 (outs.length + 1) (slcs aa cc outs ++ [.slice aN i cN]))], Fx.and (rowF aN (ints (rowOf f i)))⟩ by
          repeat' (first
            | exact hk
            | (with_reducible exact one1 rfl)
            | (with_reducible refine And.intro (by omega) ?_)
            | (with_reducible refine And.intro ?_ ?_)
            | intro h
            | exact rfl)
          all_goals (first | omega | (rw [mxl]; omega) | exact rfl)
        refine hK11 _ ?_
        clear hK11
        refine SC.of_le ?_ (Le.sw _ [(87, 900)])
        simp -implicitDefEqProofs only [push_cast, ↓reduceIte, Nat.reduceEqDiff, Nat.reduceAdd, Nat.reduceMul, Nat.reduceSub, Nat.reduceLeDiff, Nat.reduceLT, reduceCtorEq]
        refine SC.region ?_
        simp -implicitDefEqProofs only [push_cast, ↓reduceIte, Nat.reduceEqDiff, Nat.reduceAdd, Nat.reduceMul, Nat.reduceSub, Nat.reduceLeDiff, Nat.reduceLT, reduceCtorEq]
        refine ⟨by omega, ⟨outs ++ [rowOf f l.length], upA aa outs.length aN, upA cc outs.length cN, Fx.and (rowF aN (ints (rowOf f i)))⟩, ?_, by simp; omega, Le.trans (Le.norm _ [0, 1, 2, 6, 8, 9] [.l 6, .l 8, .l 900]) ?_⟩
        · have hl1 : (outs ++ [rowOf f l.length]).length = outs.length + 1 := by simp
          refine ⟨by rw [hl1]; omega, ?_, Fact.to_left htx, ?_, ?_⟩
          · rw [hl1]
            simp only [spreadRows]
            rw [← hsr, ← hf]
          · intro j l' hl'
            rcases Nat.lt_or_ge j outs.length with hi2 | hi2
            · rw [List.getElem?_append_left hi2] at hl'
              have := hro j l' hl'
              have hA1 : upA aa outs.length aN j = aa j := upA_ne (by omega)
              have hC1 : upA cc outs.length cN j = cc j := upA_ne (by omega)
              exact ⟨by show l'.length ≤ upA cc outs.length cN j; rw [hC1]; exact this.1, by show Fact.to _ (rowF (upA aa outs.length aN j) (ints l')); rw [hA1]; exact Fact.to_left this.2⟩
            · rw [List.getElem?_append_right hi2] at hl'
              have h0 : j - outs.length = 0 := by have := (List.getElem?_eq_some_iff.1 hl').1; simp at this; omega
              have hie : j = outs.length := by omega
              subst hie
              simp only [Nat.sub_self, List.getElem?_cons_zero, Option.some.injEq] at hl'
              subst hl'
              exact ⟨by show (rowOf _ _).length ≤ upA cc outs.length cN outs.length; rw [upA_same, rowOf_length]; omega, by show Fact.to _ (rowF (upA aa outs.length aN outs.length) _); rw [upA_same, hin]; exact Fact.to_right (Fact.to_refl _)⟩
          · show rowsBd (outs ++ [rowOf f l.length])
            intro j row x hj hx
            rcases Nat.lt_or_ge j outs.length with hi2 | hi2
            · rw [List.getElem?_append_left hi2] at hj
              exact hrb j row x hj hx
            · rw [List.getElem?_append_right hi2] at hj
              have h0 : j - outs.length = 0 := by have := (List.getElem?_eq_some_iff.1 hj).1; simp at this; omega
              have hie : j = outs.length := by omega
              subst hie
              simp only [Nat.sub_self, List.getElem?_cons_zero, Option.some.injEq] at hj
              subst hj
              obtain ⟨i2, hi3, rfl⟩ := List.mem_map.1 hx
              exact runMax_bd (n := l.length) hbd1 i2 (List.mem_range.1 hi3)
        · simp -implicitDefEqProofs only [push_cast, ↓reduceIte, Nat.reduceEqDiff, Nat.reduceAdd, Nat.reduceMul, Nat.reduceSub, Nat.reduceLeDiff, Nat.reduceLT, reduceCtorEq]
          rw [show (((outs ++ [rowOf f l.length]).length : Nat) : Int) = (outs.length : Int) + 1 by simp, show (outs ++ [rowOf f l.length]).length = outs.length + 1 by simp, slcs_snoc (aa' := upA aa outs.length aN) (cc' := upA cc outs.length cN) (aa := aa) (cc := cc) (fun i hi => ⟨upA_ne (by omega), upA_ne (by omega)⟩) (upA_same _ _ _) (upA_same _ _ _) (rowOf_length _ _), ← hin]
          exact Le.refl _
    · skip
      refine SC.exit ?_
      simp -implicitDefEqProofs only [push_cast, ↓reduceIte, Nat.reduceEqDiff, Nat.reduceAdd, Nat.reduceMul, Nat.reduceSub, Nat.reduceLeDiff, Nat.reduceLT, reduceCtorEq]
      refine hK7 _ ?_
      clear hK7
      refine SC.seqN [6] [.l 6, .l 81, .l 82, .l 86, .l 87, .l 900, .l 901] fun K23 hK23 => SC.region ?_
      simp -implicitDefEqProofs only [push_cast, ↓reduceIte, Nat.reduceEqDiff, Nat.reduceAdd, Nat.reduceMul, Nat.reduceSub, Nat.reduceLeDiff, Nat.reduceLT, reduceCtorEq]
      refine hK23 _ ?_
      clear hK23
      refine SC.frzRow (k := .l 900) rfl (by rw [slcs_length, Nat.mul_one]) fun aO bO cO hcO => ?_
      simp -implicitDefEqProofs only [push_cast, ↓reduceIte, Nat.reduceEqDiff, Nat.reduceAdd, Nat.reduceMul, Nat.reduceSub, Nat.reduceLeDiff, Nat.reduceLT, reduceCtorEq]
      refine SC.ret ?_
      simp -implicitDefEqProofs only [push_cast, ↓reduceIte, Nat.reduceEqDiff, Nat.reduceAdd, Nat.reduceMul, Nat.reduceSub, Nat.reduceLeDiff, Nat.reduceLT, reduceCtorEq, Tryz.f18]
      have hkn : outs.length = ps.length := by omega
      refine ⟨_, by rw [spreadE, if_neg (by simp [h1])], ?_⟩
      rw [spreadR, if_neg (by simp [h1]), ← hkn, ← hsr]
      exact ⟨aO, cO, aa, cc, rfl, hcO, Fact.to_right (Fact.to_refl _), hro.to (Fact.to_left (Fact.to_refl _))⟩
end Go.Proofs.YtmamodnpghlgcaaGreatDoor
/- Texts; decimal, digit, hex of the specification. -/

set_option linter.unusedSimpArgs false
set_option linter.unusedVariables false
set_option maxRecDepth 100000
set_option maxHeartbeats 4000000
namespace Go.Proofs.YtmamodnpghlgcaaGreatDoor
open Go.RowKit
/-- A text of these bytes. -/
def tx (l : List UInt8) : ByteArray := ⟨l.toArray⟩
theorem tx_size (l : List UInt8) : (tx l).size = l.length := by simp [tx, ByteArray.size]
theorem tx_append (a b : List UInt8) : tx a ++ tx b = tx (a ++ b) := by
  apply ByteArray.ext
  simp [tx]
theorem tx_of (b : ByteArray) : tx b.data.toList = b := by
  cases b; simp [tx]
theorem tx_inj {a b : List UInt8} : tx a = tx b ↔ a = b := by
  constructor
  · intro h
    have := congrArg (fun x => x.data.toList) h
    simpa [tx] using this
  · rintro rfl; rfl
theorem bstr_tx (ns : List Int) : bstr ns = tx (ns.map fun n => UInt8.ofNat n.toNat) := rfl
theorem mk_tx (l : List UInt8) : (⟨⟨l⟩⟩ : ByteArray) = tx l := rfl
def dec (n : Int) : List UInt8 := Lib.decDigits n.toNat
theorem dec_small {n : Int} (h0 : 0 ≤ n) (h : n < 10) : dec n = [UInt8.ofNat (48 + n).toNat] := by
  unfold dec
  rw [Lib.decDigits, dif_pos (by omega)]
  congr 2
  omega
theorem dec_big {n : Int} (h : 10 ≤ n) : dec n = dec (n / 10) ++ [UInt8.ofNat (48 + n % 10).toNat] := by
  unfold dec
  rw [Lib.decDigits, dif_neg (by omega)]
  congr 3
  · omega
  · omega
theorem decD_len : ∀ k u, u < 10 ^ (k + 1) → (Lib.decDigits u).length ≤ k + 1
  | 0, u, h => by rw [Lib.decDigits, dif_pos (by simpa using h)]; simp
  | k + 1, u, h => by
    rw [Lib.decDigits]
    split
    · simp
    · have := decD_len k (u / 10) (by rw [Nat.pow_succ] at h; omega)
      simp only [List.length_append, List.length_singleton]
      omega
theorem dec_len {n : Int} (h : n ≤ 9223372036854775807) : (dec n).length ≤ 19 := decD_len 18 _ (by omega)
theorem dec_ne (n : Int) : dec n ≠ [] := by
  unfold dec
  rw [Lib.decDigits]
  split
  · simp
  · simp
theorem decimal_fn (n : Int) (F : Fact) (h0 : 0 ≤ n) (hn : n ≤ 9223372036854775807) : Fn Tryz.prog 46 [.int .i64 n] F fun v _ => v = .string (tx (dec n)) := by
  refine Fn.of_body Tryz.func46 rfl (Nat.le_of_ble_eq_true rfl) (Nat.le_of_ble_eq_true rfl) (by kernel_rfl) ?_
  refine SC.seqN [0] [.l 10, .l 19] fun K1 hK1 => SC.region ?_
  simp -implicitDefEqProofs only [push_cast, ↓reduceIte, Nat.reduceEqDiff, Nat.reduceAdd, Nat.reduceMul, Nat.reduceSub, Nat.reduceLeDiff, Nat.reduceLT, reduceCtorEq]
  refine hK1 _ ?_
  clear hK1
  refine SC.seqN [0, 3] [.l 10, .l 19] fun K2 hK2 => SC.region ?_
  simp -implicitDefEqProofs only [push_cast, ↓reduceIte, Nat.reduceEqDiff, Nat.reduceAdd, Nat.reduceMul, Nat.reduceSub, Nat.reduceLeDiff, Nat.reduceLT, reduceCtorEq]
  refine hK2 _ ?_
  clear hK2
  refine SC.seqN [0, 3] [.l 10, .l 19] fun K3 hK3 => ?_
  refine SC.block ?_
  refine SC.loop (fun x : Int × List UInt8 => ⟨[(0, .v (.int .i64 x.1)), (3, .v (.string (tx x.2)))], [], F⟩) (fun x => 0 ≤ x.1 ∧ x.1 ≤ n ∧ dec n = dec x.1 ++ x.2) (fun x => x.1.toNat) (n, []) (Le.refl _) ⟨h0, Int.le_refl _, (List.append_nil _).symm⟩ fun x hx => ?_
  obtain ⟨m, out⟩ := x
  simp only at hx
  obtain ⟨hm0, hmn, hd⟩ := hx
  have hol : out.length ≤ 19 := by
    have := dec_len hn
    rw [hd] at this
    simp only [List.length_append] at this
    omega
  refine SC.seqN [0, 3] [.l 10, .l 19] fun K4 hK4 => ?_
  refine SC.seqN [0, 3, 5] [.l 10, .l 19] fun K5 hK5 => SC.region ?_
  simp -implicitDefEqProofs only [push_cast, ↓reduceIte, Nat.reduceEqDiff, Nat.reduceAdd, Nat.reduceMul, Nat.reduceSub, Nat.reduceLeDiff, Nat.reduceLT, reduceCtorEq]
  refine hK5 _ ?_
  clear hK5
  refine SC.cond ?_
  simp -implicitDefEqProofs only [push_cast, ↓reduceIte, Nat.reduceEqDiff, Nat.reduceAdd, Nat.reduceMul, Nat.reduceSub, Nat.reduceLeDiff, Nat.reduceLT, reduceCtorEq]
  refine ⟨fun h1 => ?_, fun h1 => ?_⟩
  · skip
    refine SC.skip ?_
    simp -implicitDefEqProofs only [push_cast, ↓reduceIte, Nat.reduceEqDiff, Nat.reduceAdd, Nat.reduceMul, Nat.reduceSub, Nat.reduceLeDiff, Nat.reduceLT, reduceCtorEq]
    refine hK4 _ ?_
    clear hK4
    refine SC.block ?_
    refine SC.seqN [0, 3] [.l 10, .l 19] fun K6 hK6 => SC.region ?_
    simp -implicitDefEqProofs only [push_cast, ↓reduceIte, Nat.reduceEqDiff, Nat.reduceAdd, Nat.reduceMul, Nat.reduceSub, Nat.reduceLeDiff, Nat.reduceLT, reduceCtorEq]
    have hb1 : (tx out).size = out.length := tx_size out
    have hb2 : (bstr [48 + m % 10]).size = 1 := rfl
    refine ⟨by omega, by omega, by omega, by rw [mxl]; omega, ?_⟩
    rw [bstr_tx, tx_append]
    refine hK6 _ ?_
    clear hK6
    refine SC.region ?_
    simp -implicitDefEqProofs only [push_cast, ↓reduceIte, Nat.reduceEqDiff, Nat.reduceAdd, Nat.reduceMul, Nat.reduceSub, Nat.reduceLeDiff, Nat.reduceLT, reduceCtorEq]
    refine ⟨by omega, by omega, (m / 10, UInt8.ofNat (48 + m % 10).toNat :: out), ⟨by omega, by omega, ?_⟩, by omega, Le.norm _ [0, 3] []⟩
    rw [hd, dec_big (by omega), List.append_assoc]
    rfl
  · skip
    refine SC.exit ?_
    simp -implicitDefEqProofs only [push_cast, ↓reduceIte, Nat.reduceEqDiff, Nat.reduceAdd, Nat.reduceMul, Nat.reduceSub, Nat.reduceLeDiff, Nat.reduceLT, reduceCtorEq]
    refine hK3 _ ?_
    clear hK3
    refine SC.seqN [2] [.l 10, .l 19] fun K7 hK7 => SC.region ?_
    simp -implicitDefEqProofs only [push_cast, ↓reduceIte, Nat.reduceEqDiff, Nat.reduceAdd, Nat.reduceMul, Nat.reduceSub, Nat.reduceLeDiff, Nat.reduceLT, reduceCtorEq]
    have hb1 : (tx out).size = out.length := tx_size out
    have hb2 : (bstr [48 + m]).size = 1 := rfl
    refine ⟨by omega, by omega, by rw [mxl]; omega, ?_⟩
    rw [bstr_tx, tx_append]
    refine hK7 _ ?_
    clear hK7
    refine SC.ret ?_
    simp -implicitDefEqProofs only [push_cast, ↓reduceIte, Nat.reduceEqDiff, Nat.reduceAdd, Nat.reduceMul, Nat.reduceSub, Nat.reduceLeDiff, Nat.reduceLT, reduceCtorEq, Tryz.f46]
    rw [hd, dec_small hm0 (by omega)]
    rfl
def hexd (n : Int) : UInt8 := UInt8.ofNat (if n < 10 then 48 + n else 87 + n).toNat
theorem digit_fn (n : Int) (F : Fact) (h0 : 0 ≤ n) (hn : n < 16) : Fn Tryz.prog 73 [.int .i64 n] F fun v _ => v = .string (tx [hexd n]) := by
  refine Fn.of_body Tryz.func73 rfl (Nat.le_of_ble_eq_true rfl) (Nat.le_of_ble_eq_true rfl) (by kernel_rfl) ?_
  refine SC.seqN [0] [.l 8, .l 14] fun K1 hK1 => SC.region ?_
  simp -implicitDefEqProofs only [push_cast, ↓reduceIte, Nat.reduceEqDiff, Nat.reduceAdd, Nat.reduceMul, Nat.reduceSub, Nat.reduceLeDiff, Nat.reduceLT, reduceCtorEq]
  refine hK1 _ ?_
  clear hK1
  refine SC.seqN [0] [.l 8, .l 14] fun K2 hK2 => ?_
  refine SC.seqN [0, 4] [.l 8, .l 14] fun K3 hK3 => SC.region ?_
  simp -implicitDefEqProofs only [push_cast, ↓reduceIte, Nat.reduceEqDiff, Nat.reduceAdd, Nat.reduceMul, Nat.reduceSub, Nat.reduceLeDiff, Nat.reduceLT, reduceCtorEq]
  refine hK3 _ ?_
  clear hK3
  refine SC.cond ?_
  simp -implicitDefEqProofs only [push_cast, ↓reduceIte, Nat.reduceEqDiff, Nat.reduceAdd, Nat.reduceMul, Nat.reduceSub, Nat.reduceLeDiff, Nat.reduceLT, reduceCtorEq]
  refine ⟨fun h1 => ?_, fun h1 => ?_⟩
  · skip
    refine SC.seqN [2] [.l 8, .l 14] fun K4 hK4 => SC.region ?_
    simp -implicitDefEqProofs only [push_cast, ↓reduceIte, Nat.reduceEqDiff, Nat.reduceAdd, Nat.reduceMul, Nat.reduceSub, Nat.reduceLeDiff, Nat.reduceLT, reduceCtorEq]
    refine ⟨by omega, by omega, ?_⟩
    rw [bstr_tx]
    refine hK4 _ ?_
    clear hK4
    refine SC.ret ?_
    simp -implicitDefEqProofs only [push_cast, ↓reduceIte, Nat.reduceEqDiff, Nat.reduceAdd, Nat.reduceMul, Nat.reduceSub, Nat.reduceLeDiff, Nat.reduceLT, reduceCtorEq, Tryz.f73]
    unfold hexd
    rw [if_pos h1]
  · skip
    refine SC.skip ?_
    simp -implicitDefEqProofs only [push_cast, ↓reduceIte, Nat.reduceEqDiff, Nat.reduceAdd, Nat.reduceMul, Nat.reduceSub, Nat.reduceLeDiff, Nat.reduceLT, reduceCtorEq]
    refine hK2 _ ?_
    clear hK2
    refine SC.seqN [2] [.l 8, .l 14] fun K5 hK5 => SC.region ?_
    simp -implicitDefEqProofs only [push_cast, ↓reduceIte, Nat.reduceEqDiff, Nat.reduceAdd, Nat.reduceMul, Nat.reduceSub, Nat.reduceLeDiff, Nat.reduceLT, reduceCtorEq]
    refine ⟨by omega, by omega, by omega, ?_⟩
    rw [bstr_tx]
    refine hK5 _ ?_
    clear hK5
    refine SC.ret ?_
    simp -implicitDefEqProofs only [push_cast, ↓reduceIte, Nat.reduceEqDiff, Nat.reduceAdd, Nat.reduceMul, Nat.reduceSub, Nat.reduceLeDiff, Nat.reduceLT, reduceCtorEq, Tryz.f73]
    unfold hexd
    rw [if_neg h1]
    rw [show 97 + n - 10 = 87 + n by omega]
def dgs (f : Nat → Int) : List Value := [.int .u8 (f 0), .int .u8 (f 1), .int .u8 (f 2), .int .u8 (f 3), .int .u8 (f 4), .int .u8 (f 5), .int .u8 (f 6), .int .u8 (f 7), .int .u8 (f 8), .int .u8 (f 9), .int .u8 (f 10), .int .u8 (f 11), .int .u8 (f 12), .int .u8 (f 13), .int .u8 (f 14), .int .u8 (f 15)]
theorem idx_body (f : Nat → Int) {i : Nat} (h : i < 16) : idx [SV.v (.int .u8 (f 0)), SV.v (.int .u8 (f 1)), SV.v (.int .u8 (f 2)), SV.v (.int .u8 (f 3)), SV.v (.int .u8 (f 4)), SV.v (.int .u8 (f 5)), SV.v (.int .u8 (f 6)), SV.v (.int .u8 (f 7)), SV.v (.int .u8 (f 8)), SV.v (.int .u8 (f 9)), SV.v (.int .u8 (f 10)), SV.v (.int .u8 (f 11)), SV.v (.int .u8 (f 12)), SV.v (.int .u8 (f 13)), SV.v (.int .u8 (f 14)), SV.v (.int .u8 (f 15))] i = some (.v (.int .u8 (f i))) := by
  have : i = 0 ∨ i = 1 ∨ i = 2 ∨ i = 3 ∨ i = 4 ∨ i = 5 ∨ i = 6 ∨ i = 7 ∨ i = 8 ∨ i = 9 ∨ i = 10 ∨ i = 11 ∨ i = 12 ∨ i = 13 ∨ i = 14 ∨ i = 15 := by omega
  rcases this with rfl|rfl|rfl|rfl|rfl|rfl|rfl|rfl|rfl|rfl|rfl|rfl|rfl|rfl|rfl|rfl <;> rfl
def hexL (f : Nat → Int) : Nat → List UInt8
  | 0 => []
  | i + 1 => hexL f i ++ [hexd (f i / 16), hexd (f i % 16)]
theorem hexL_len (f : Nat → Int) (n : Nat) : (hexL f n).length = 2 * n := by
  induction n with
  | zero => rfl
  | succ n ih => simp only [hexL, List.length_append, ih, List.length_cons, List.length_nil]; omega
def hexT (f : Nat → Int) : List UInt8 := hexL f 16
theorem hex_fn (f : Nat → Int) (F : Fact) (hf : ∀ i, i < 16 → 0 ≤ f i ∧ f i ≤ 255) : Fn Tryz.prog 47 [.agg (dgs f).toArray] F fun v _ => v = .string (tx (hexT f)) := by
  unfold dgs
  refine Fn.of_body Tryz.func47 rfl (Nat.le_of_ble_eq_true rfl) (Nat.le_of_ble_eq_true rfl) (by kernel_rfl) ?_
  refine SC.seqN [1] [.l 1] fun K1 hK1 => SC.region ?_
  simp -implicitDefEqProofs only [push_cast, ↓reduceIte, Nat.reduceEqDiff, Nat.reduceAdd, Nat.reduceMul, Nat.reduceSub, Nat.reduceLeDiff, Nat.reduceLT, reduceCtorEq]
  refine hK1 _ ?_
  clear hK1
  refine SC.seqN [1, 3] [.l 1] fun K2 hK2 => SC.region ?_
  simp -implicitDefEqProofs only [push_cast, ↓reduceIte, Nat.reduceEqDiff, Nat.reduceAdd, Nat.reduceMul, Nat.reduceSub, Nat.reduceLeDiff, Nat.reduceLT, reduceCtorEq]
  refine hK2 _ ?_
  clear hK2
  refine SC.seqN [3] [] fun K3 hK3 => ?_
  refine SC.seqN [1, 3, 4] [.l 1] fun K4 hK4 => SC.region ?_
  simp -implicitDefEqProofs only [push_cast, ↓reduceIte, Nat.reduceEqDiff, Nat.reduceAdd, Nat.reduceMul, Nat.reduceSub, Nat.reduceLeDiff, Nat.reduceLT, reduceCtorEq]
  refine hK4 _ ?_
  clear hK4
  refine SC.block ?_
  refine SC.loop (fun i : Nat => ⟨[(1, .own (.l 1) 0), (3, .v (.string (tx (hexL f i)))), (4, .v (.int .i64 i))], [(.l 1, .box [.v (.int .u8 (f 0)), .v (.int .u8 (f 1)), .v (.int .u8 (f 2)), .v (.int .u8 (f 3)), .v (.int .u8 (f 4)), .v (.int .u8 (f 5)), .v (.int .u8 (f 6)), .v (.int .u8 (f 7)), .v (.int .u8 (f 8)), .v (.int .u8 (f 9)), .v (.int .u8 (f 10)), .v (.int .u8 (f 11)), .v (.int .u8 (f 12)), .v (.int .u8 (f 13)), .v (.int .u8 (f 14)), .v (.int .u8 (f 15))] 55)], F⟩) (fun i => i ≤ 16) (fun i => 16 - i) 0 (Le.refl _) (Nat.zero_le _) fun i hi => ?_
  refine SC.seqN [1, 3, 4] [.l 1] fun K5 hK5 => ?_
  refine SC.seqN [1, 3, 4, 6] [.l 1] fun K6 hK6 => SC.region ?_
  simp -implicitDefEqProofs only [push_cast, ↓reduceIte, Nat.reduceEqDiff, Nat.reduceAdd, Nat.reduceMul, Nat.reduceSub, Nat.reduceLeDiff, Nat.reduceLT, reduceCtorEq]
  refine hK6 _ ?_
  clear hK6
  refine SC.cond ?_
  simp -implicitDefEqProofs only [push_cast, ↓reduceIte, Nat.reduceEqDiff, Nat.reduceAdd, Nat.reduceMul, Nat.reduceSub, Nat.reduceLeDiff, Nat.reduceLT, reduceCtorEq]
  refine ⟨fun h1 => ?_, fun h1 => ?_⟩
  · skip
    refine SC.skip ?_
    simp -implicitDefEqProofs only [push_cast, ↓reduceIte, Nat.reduceEqDiff, Nat.reduceAdd, Nat.reduceMul, Nat.reduceSub, Nat.reduceLeDiff, Nat.reduceLT, reduceCtorEq]
    refine hK5 _ ?_
    clear hK5
    refine SC.seqN [1, 3, 4] [.l 1] fun K7 hK7 => ?_
    refine SC.block ?_
    refine SC.drawnP (.take 0 (.take 1 (.take 2 (.take 8 (.take 9 (.load 3 (.take 4 (.take 5 (.load 10 (.take 11 (.take 12 (.forkE 6 [11, 18] (.take 7 (.forkE 13 [11, 18] (.take 14 (.take 15 (.done))) (.stop))) (.stop))))))))))))) (by kernel_rfl) (by kernel_rfl) (fun _ _ h => h) ?_
    simp -implicitDefEqProofs only [push_cast, ↓reduceIte, Nat.reduceEqDiff, Nat.reduceAdd, Nat.reduceMul, Nat.reduceSub, Nat.reduceLeDiff, Nat.reduceLT, reduceCtorEq]
    have hi2 : i < 16 := by omega
    have e9 : ((i : Int).toNat * 1) = i := by omega
    have hfi := hf i hi2
    have hol := hexL_len f i
    refine ⟨by omega, by omega, ?_⟩
    rw [e9, idx_body f hi2]
    simp -implicitDefEqProofs only [push_cast, ↓reduceIte, Nat.reduceEqDiff, Nat.reduceAdd, Nat.reduceMul, Nat.reduceSub, Nat.reduceLeDiff, Nat.reduceLT, reduceCtorEq]
    refine ⟨by omega, by omega, by omega, ?_⟩
    rw [idx_body f hi2]
    simp -implicitDefEqProofs only [push_cast, ↓reduceIte, Nat.reduceEqDiff, Nat.reduceAdd, Nat.reduceMul, Nat.reduceSub, Nat.reduceLeDiff, Nat.reduceLT, reduceCtorEq]
    have ht1 : (tx [hexd (f i / 16)]).size = 1 := rfl
    have ht2 : (tx [hexd (f i % 16)]).size = 1 := rfl
    have ht3 : (tx (hexL f i)).size = 2 * i := by rw [tx_size, hol]
    have ht4 : (tx (hexL f i) ++ tx [hexd (f i / 16)]).size = 2 * i + 1 := by rw [tx_append, tx_size, List.length_append, hol]; rfl
    suffices hk : K7 ⟨[(1, .own (.l 1) 0), (3, .v (.string (tx (hexL f i) ++ tx [hexd (f i / 16)] ++ tx [hexd (f i % 16)]))), (4, .v (.int .i64 i))], [(.l 1, .box [.v (.int .u8 (f 0)), .v (.int .u8 (f 1)), .v (.int .u8 (f 2)), .v (.int .u8 (f 3)), .v (.int .u8 (f 4)), .v (.int .u8 (f 5)), .v (.int .u8 (f 6)), .v (.int .u8 (f 7)), .v (.int .u8 (f 8)), .v (.int .u8 (f 9)), .v (.int .u8 (f 10)), .v (.int .u8 (f 11)), .v (.int .u8 (f 12)), .v (.int .u8 (f 13)), .v (.int .u8 (f 14)), .v (.int .u8 (f 15))] 55)], F⟩ by
      repeat' (first
        | exact hk
        | (with_reducible refine callL_fn0 (digit_fn (f i / 16) F (by omega) (by omega)) ?_ (fun _ h => h) ?_
           · rfl
           intro v G hv
           subst hv
           simp -implicitDefEqProofs only [push_cast, ↓reduceIte, Nat.reduceEqDiff, Nat.reduceAdd, Nat.reduceMul, Nat.reduceSub, Nat.reduceLeDiff, Nat.reduceLT, reduceCtorEq])
        | (with_reducible refine callL_fn0 (digit_fn (f i % 16) F (by omega) (by omega)) ?_ (fun _ h => h) ?_
           · rfl
           intro v G hv
           subst hv
           simp -implicitDefEqProofs only [push_cast, ↓reduceIte, Nat.reduceEqDiff, Nat.reduceAdd, Nat.reduceMul, Nat.reduceSub, Nat.reduceLeDiff, Nat.reduceLT, reduceCtorEq])
        | (with_reducible refine And.intro (by rw [mxl]; omega) ?_)
        | (with_reducible refine And.intro (by omega) ?_)
        | (with_reducible refine And.intro ?_ ?_)
        | intro h
        | exact rfl)
    rw [tx_append, tx_append, List.append_assoc]
    refine hK7 _ ?_
    clear hK7
    refine SC.region ?_
    simp -implicitDefEqProofs only [push_cast, ↓reduceIte, Nat.reduceEqDiff, Nat.reduceAdd, Nat.reduceMul, Nat.reduceSub, Nat.reduceLeDiff, Nat.reduceLT, reduceCtorEq]
    refine ⟨by omega, i + 1, by omega, by omega, Le.norm _ [1, 3, 4] [.l 1]⟩
  · skip
    refine SC.exit ?_
    simp -implicitDefEqProofs only [push_cast, ↓reduceIte, Nat.reduceEqDiff, Nat.reduceAdd, Nat.reduceMul, Nat.reduceSub, Nat.reduceLeDiff, Nat.reduceLT, reduceCtorEq]
    refine hK3 _ ?_
    clear hK3
    refine SC.seqN [2] [] fun K8 hK8 => SC.region ?_
    simp -implicitDefEqProofs only [push_cast, ↓reduceIte, Nat.reduceEqDiff, Nat.reduceAdd, Nat.reduceMul, Nat.reduceSub, Nat.reduceLeDiff, Nat.reduceLT, reduceCtorEq]
    refine hK8 _ ?_
    clear hK8
    refine SC.ret ?_
    simp -implicitDefEqProofs only [push_cast, ↓reduceIte, Nat.reduceEqDiff, Nat.reduceAdd, Nat.reduceMul, Nat.reduceSub, Nat.reduceLeDiff, Nat.reduceLT, reduceCtorEq, Tryz.f47]
    have : i = 16 := by omega
    subst this
    rfl
end Go.Proofs.YtmamodnpghlgcaaGreatDoor
