/- Own texts that this proof leans on, part 4: Mo, Mp, Mq, Na, Nb, Ne, Qa, Ra, Rb, Rc, Sa, Sb. -/
import Derived.Test.YtmamodnpghlgcaaDoorWc
import Derived.IntWalk
/- segment of the program. -/

set_option linter.unusedSimpArgs false
set_option linter.unusedVariables false
set_option maxRecDepth 100000
set_option maxHeartbeats 4000000
namespace Go.Proofs.YtmamodnpghlgcaaDoor
open Go.RowKit
def segQ : List (List UInt8) → Option Seg
  | [pa, pb, pc, ph] => if ph.length = 32 then match numP pa, numP pb, numP pc with
    | some a, some b, some c => if (List.range 16).any (badV ph) then none else some ⟨0, a, b, bodyV ph, c⟩
    | _, _, _ => none
    else none
  | _ => none
/-- The segment of a line, as the program reads it. -/
def segP (l : List UInt8) : Option Seg := segQ (spl 32 l)
theorem segQ_len {l : List (List UInt8)} (h : l.length ≠ 4) : segQ l = none := by
  unfold segQ
  split
  · exact absurd rfl h
  · rfl
theorem segQ_none {pa pb pc ph : List UInt8} (h : numP pa = none ∨ numP pb = none ∨ numP pc = none ∨ ph.length ≠ 32 ∨ (List.range 16).any (badV ph) = true) : segQ [pa, pb, pc, ph] = none := by
  unfold segQ
  simp only
  by_cases h32 : ph.length = 32
  · rw [if_pos h32]
    split
    · rename_i a b c h1 h2 h3
      rw [if_pos]
      rcases h with h | h | h | h | h
      · rw [h] at h1; cases h1
      · rw [h] at h2; cases h2
      · rw [h] at h3; cases h3
      · exact absurd h32 h
      · exact h
    · rfl
  · rw [if_neg h32]
theorem segQ_some {pa pb pc ph : List UInt8} {na nb nc : Int} (h1 : numP pa = some na) (h2 : numP pb = some nb) (h3 : numP pc = some nc) (h32 : ph.length = 32) (hb : ¬ (List.range 16).any (badV ph) = true) : segQ [pa, pb, pc, ph] = some ⟨0, na, nb, bodyV ph, nc⟩ := by
  unfold segQ
  simp only
  rw [if_pos h32, h1, h2, h3]
  simp only
  rw [if_neg hb]
def dgtL : List UInt8 := [48, 49, 50, 51, 52, 53, 54, 55, 56, 57, 97, 98, 99, 100, 101, 102]
theorem dgt_fin : ∀ i : Fin 256, Lib.indexByte dgtL i.val.toUInt8 = valL (i.val : Int) := by decide +kernel
theorem dgt_val {x : Int} (h0 : 0 ≤ x) (h1 : x ≤ 255) : Lib.indexByte dgtL x.toNat.toUInt8 = valL x := by
  have := dgt_fin ⟨x.toNat, by omega⟩
  simp only at this
  rw [this]
  congr 1
  omega
theorem segment_fn (l : List UInt8) (F : Fact) (hF : F.to libF) (hl : l.length ≤ 1000000) : FnE Tryd.prog 37 [.string (tx l)] F (fun v _ => ∃ s, segP l = some s ∧ v = segV s) (fun v => segP l = none ∧ v = errV) := by
  refine FnE.of_body Tryd.func37 rfl (Nat.le_of_ble_eq_true rfl) (Nat.le_of_ble_eq_true rfl) (by kernel_rfl) ?_
  refine SC.seqN [0, 2] [.l 2] fun K1 hK1 => SC.region ?_
  simp -implicitDefEqProofs only [push_cast, ↓reduceIte, Nat.reduceEqDiff, Nat.reduceAdd, Nat.reduceMul, Nat.reduceSub, Nat.reduceLeDiff, Nat.reduceLT, reduceCtorEq]
  refine hK1 _ ?_
  clear hK1
  refine SC.seqN [2, 3] [.l 2] fun K2 hK2 => SC.region ?_
  simp -implicitDefEqProofs only [push_cast, ↓reduceIte, Nat.reduceEqDiff, Nat.reduceAdd, Nat.reduceMul, Nat.reduceSub, Nat.reduceLeDiff, Nat.reduceLT, reduceCtorEq]
  refine callL_fn (split_lib_fn l 32 F hF (by omega)) rfl (fun _ h => h) ?_
  rintro v G ⟨a, c, rfl, hc, hG⟩
  simp -implicitDefEqProofs only [push_cast, ↓reduceIte, Nat.reduceEqDiff, Nat.reduceAdd, Nat.reduceMul, Nat.reduceSub, Nat.reduceLeDiff, Nat.reduceLT, reduceCtorEq]
  have hFG : (F.and G).to (rowF a (strs (spl 32 l))) := Fact.to_right hG
  have hFl : (F.and G).to libF := Fact.to_left hF
  generalize F.and G = F2 at *
  refine hK2 _ ?_
  clear hK2
  refine SC.seqN [2, 3] [.l 2] fun K3 hK3 => SC.region ?_
  simp -implicitDefEqProofs only [push_cast, ↓reduceIte, Nat.reduceEqDiff, Nat.reduceAdd, Nat.reduceMul, Nat.reduceSub, Nat.reduceLeDiff, Nat.reduceLT, reduceCtorEq]
  suffices key3 : (∃ pa pb pc ph, spl 32 l = [pa, pb, pc, ph] ∧ ph.length = 32) → K3 ⟨[(2, .own (.l 2) 0), (3, .v (.slice a (spl 32 l).length c))], [(.l 2, .box [.v (.int .i64 0), .v (.int .i64 0), .v (.int .i64 0), .v (.int .u8 0), .v (.int .u8 0), .v (.int .u8 0), .v (.int .u8 0), .v (.int .u8 0), .v (.int .u8 0), .v (.int .u8 0), .v (.int .u8 0), .v (.int .u8 0), .v (.int .u8 0), .v (.int .u8 0), .v (.int .u8 0), .v (.int .u8 0), .v (.int .u8 0), .v (.int .u8 0), .v (.int .u8 0), .v (.int .i64 0)] 40)], F2⟩ by
    clear hK3
    refine ⟨fun h4 => ?_, fun h4 => ?_⟩
    · obtain ⟨pa, pb, pc, ph, he⟩ : ∃ pa pb pc ph, spl 32 l = [pa, pb, pc, ph] := by
        have h5 : (spl 32 l).length = 4 := by omega
        match h6 : spl 32 l, h5 with
        | [pa, pb, pc, ph], _ => exact ⟨pa, pb, pc, ph, rfl⟩
      have h6 : (spl 32 l)[3]? = some ph := by rw [he]; rfl
      have h7 := tx_size ph
      refine ⟨by omega, rowF_some hFG (strs_ne (by omega)), loadStr 3 hFG h6 rfl ?_⟩
      simp -implicitDefEqProofs only [push_cast, ↓reduceIte, Nat.reduceEqDiff, Nat.reduceAdd, Nat.reduceMul, Nat.reduceSub, Nat.reduceLeDiff, Nat.reduceLT, reduceCtorEq]
      refine callL_fnE0 (must_fn (decide (((tx ph).size : Int) = 32)) F2) rfl (fun _ h => h) (fun v G hv => ?_) fun v hv => ?_
      · simp -implicitDefEqProofs only [push_cast, ↓reduceIte, Nat.reduceEqDiff, Nat.reduceAdd, Nat.reduceMul, Nat.reduceSub, Nat.reduceLeDiff, Nat.reduceLT, reduceCtorEq]
        refine key3 ⟨pa, pb, pc, ph, he, ?_⟩
        have := hv.1
        rw [h7, decide_eq_true_eq] at this
        omega
      · simp -implicitDefEqProofs only [push_cast, ↓reduceIte, Nat.reduceEqDiff, Nat.reduceAdd, Nat.reduceMul, Nat.reduceSub, Nat.reduceLeDiff, Nat.reduceLT, reduceCtorEq]
        refine ⟨?_, hv.2⟩
        unfold segP
        rw [he]
        refine segQ_none (.inr (.inr (.inr (.inl ?_))))
        have := hv.1
        rw [h7, decide_eq_false_iff_not] at this
        omega
    · refine callL_fnE0 (must_fn false F2) rfl (fun _ h => h) (fun v G hv => by cases hv.1) fun v hv => ?_
      simp -implicitDefEqProofs only [push_cast, ↓reduceIte, Nat.reduceEqDiff, Nat.reduceAdd, Nat.reduceMul, Nat.reduceSub, Nat.reduceLeDiff, Nat.reduceLT, reduceCtorEq]
      exact ⟨segQ_len (by omega), hv.2⟩
  rintro ⟨pa, pb, pc, ph, he, hph⟩
  refine hK3 _ ?_
  clear hK3
  have ha0 : (spl 32 l)[0]? = some pa := by rw [he]; rfl
  have ha1 : (spl 32 l)[1]? = some pb := by rw [he]; rfl
  have ha2 : (spl 32 l)[2]? = some pc := by rw [he]; rfl
  have ha3 : (spl 32 l)[3]? = some ph := by rw [he]; rfl
  have hle : (spl 32 l).length = 4 := by rw [he]; rfl
  have hlp := spl_part_len (b := 32) (l := l)
  rw [he] at hlp
  have hla : pa.length ≤ 1000000 := Nat.le_trans (hlp pa (by simp)) hl
  have hlb : pb.length ≤ 1000000 := Nat.le_trans (hlp pb (by simp)) hl
  have hlc : pc.length ≤ 1000000 := Nat.le_trans (hlp pc (by simp)) hl
  have sN : ∀ (h : numP pa = none ∨ numP pb = none ∨ numP pc = none ∨ ph.length ≠ 32 ∨ (List.range 16).any (badV ph) = true), segP l = none := fun h => by unfold segP; rw [he]; exact segQ_none h
  refine SC.seqN [2, 3, 4] [.l 2, .l 4] fun K4 hK4 => SC.drawnP (.take 0 (.take 1 (.take 4 (.take 5 (.take 8 (.take 9 (.load 2 (.load 6 (.load 10 (.forkE 3 [26, 30] (.forkE 7 [30] (.fork 11 (.take 12 (.fork 13 (.fork 14 (.done) (.stop)) (.stop))) (.forkE 13 [30] (.fork 11 (.take 12 (.fork 14 (.done) (.stop))) (.stop)) (.stop))) (.forkE 13 [26, 30] (.forkE 7 [30] (.fork 11 (.take 12 (.fork 14 (.done) (.stop))) (.stop)) (.stop)) (.stop))) (.forkE 13 [22, 26, 30] (.forkE 3 [26, 30] (.forkE 7 [30] (.fork 11 (.take 12 (.fork 14 (.done) (.stop))) (.stop)) (.stop)) (.stop)) (.stop)))))))))))) (by kernel_rfl) (by kernel_rfl) (fun _ _ h => h) ?_
  simp -implicitDefEqProofs only [push_cast, ↓reduceIte, Nat.reduceEqDiff, Nat.reduceAdd, Nat.reduceMul, Nat.reduceSub, Nat.reduceLeDiff, Nat.reduceLT, reduceCtorEq]
  suffices key4 : ∀ na nb nc, numP pa = some na → numP pb = some nb → numP pc = some nc → K4 ⟨[(2, .own (.l 2) 0), (3, .v (.slice a (spl 32 l).length c)), (4, .own (.l 4) 0)], [(.l 2, .box [.v (.int .i64 0), .v (.int .i64 0), .v (.int .i64 0), .v (.int .u8 0), .v (.int .u8 0), .v (.int .u8 0), .v (.int .u8 0), .v (.int .u8 0), .v (.int .u8 0), .v (.int .u8 0), .v (.int .u8 0), .v (.int .u8 0), .v (.int .u8 0), .v (.int .u8 0), .v (.int .u8 0), .v (.int .u8 0), .v (.int .u8 0), .v (.int .u8 0), .v (.int .u8 0), .v (.int .i64 0)] 40), (.l 4, .box [.v (.int .i64 0), .v (.int .i64 na), .v (.int .i64 nb), .v (.int .u8 0), .v (.int .u8 0), .v (.int .u8 0), .v (.int .u8 0), .v (.int .u8 0), .v (.int .u8 0), .v (.int .u8 0), .v (.int .u8 0), .v (.int .u8 0), .v (.int .u8 0), .v (.int .u8 0), .v (.int .u8 0), .v (.int .u8 0), .v (.int .u8 0), .v (.int .u8 0), .v (.int .u8 0), .v (.int .i64 nc)] 40)], F2⟩ by
    clear hK4
    repeat' (first
      | exact key4 _ _ _ (by assumption) (by assumption) (by assumption)
      | (with_reducible refine And.intro (rowF_some hFG (strs_ne (by omega))) ?_)
      | (with_reducible refine loadStr 0 hFG ha0 ?_ ?_
         · rfl
         simp -implicitDefEqProofs only [push_cast, ↓reduceIte, Nat.reduceEqDiff, Nat.reduceAdd, Nat.reduceMul, Nat.reduceSub, Nat.reduceLeDiff, Nat.reduceLT, reduceCtorEq])
      | (with_reducible refine loadStr 1 hFG ha1 ?_ ?_
         · rfl
         simp -implicitDefEqProofs only [push_cast, ↓reduceIte, Nat.reduceEqDiff, Nat.reduceAdd, Nat.reduceMul, Nat.reduceSub, Nat.reduceLeDiff, Nat.reduceLT, reduceCtorEq])
      | (with_reducible refine loadStr 2 hFG ha2 ?_ ?_
         · rfl
         simp -implicitDefEqProofs only [push_cast, ↓reduceIte, Nat.reduceEqDiff, Nat.reduceAdd, Nat.reduceMul, Nat.reduceSub, Nat.reduceLeDiff, Nat.reduceLT, reduceCtorEq])
      | (with_reducible refine callL_fnE0 (numberP_fn pa F2 hFl hla) ?_ (fun _ h => h) ?_ (by
           intro v hv
           simp -implicitDefEqProofs only [push_cast, ↓reduceIte, Nat.reduceEqDiff, Nat.reduceAdd, Nat.reduceMul, Nat.reduceSub, Nat.reduceLeDiff, Nat.reduceLT, reduceCtorEq]
           exact ⟨sN (.inl hv.1), hv.2⟩)
         · rfl
         rintro v G ⟨na, hna, rfl⟩
         simp -implicitDefEqProofs only [push_cast, ↓reduceIte, Nat.reduceEqDiff, Nat.reduceAdd, Nat.reduceMul, Nat.reduceSub, Nat.reduceLeDiff, Nat.reduceLT, reduceCtorEq])
      | (with_reducible refine callL_fnE0 (numberP_fn pb F2 hFl hlb) ?_ (fun _ h => h) ?_ (by
           intro v hv
           simp -implicitDefEqProofs only [push_cast, ↓reduceIte, Nat.reduceEqDiff, Nat.reduceAdd, Nat.reduceMul, Nat.reduceSub, Nat.reduceLeDiff, Nat.reduceLT, reduceCtorEq]
           exact ⟨sN (.inr (.inl hv.1)), hv.2⟩)
         · rfl
         rintro v G ⟨nb, hnb, rfl⟩
         simp -implicitDefEqProofs only [push_cast, ↓reduceIte, Nat.reduceEqDiff, Nat.reduceAdd, Nat.reduceMul, Nat.reduceSub, Nat.reduceLeDiff, Nat.reduceLT, reduceCtorEq])
      | (with_reducible refine callL_fnE0 (numberP_fn pc F2 hFl hlc) ?_ (fun _ h => h) ?_ (by
           intro v hv
           simp -implicitDefEqProofs only [push_cast, ↓reduceIte, Nat.reduceEqDiff, Nat.reduceAdd, Nat.reduceMul, Nat.reduceSub, Nat.reduceLeDiff, Nat.reduceLT, reduceCtorEq]
           exact ⟨sN (.inr (.inr (.inl hv.1))), hv.2⟩)
         · rfl
         rintro v G ⟨nc, hnc, rfl⟩
         simp -implicitDefEqProofs only [push_cast, ↓reduceIte, Nat.reduceEqDiff, Nat.reduceAdd, Nat.reduceMul, Nat.reduceSub, Nat.reduceLeDiff, Nat.reduceLT, reduceCtorEq])
      | (with_reducible refine And.intro (by omega) ?_)
      | (with_reducible refine And.intro ?_ ?_)
      | intro h
      | exact rfl)
  intro na nb nc hna hnb hnc
  refine hK4 _ ?_
  clear hK4
  refine SC.seqN [2, 4] [.l 2, .l 4] fun K5 hK5 => ?_
  refine SC.seqN [2, 3, 4, 34] [.l 2, .l 4] fun K6 hK6 => SC.region ?_
  simp -implicitDefEqProofs only [push_cast, ↓reduceIte, Nat.reduceEqDiff, Nat.reduceAdd, Nat.reduceMul, Nat.reduceSub, Nat.reduceLeDiff, Nat.reduceLT, reduceCtorEq]
  refine hK6 _ ?_
  clear hK6
  refine SC.block ?_
  refine SC.loop (fun i : Nat => ⟨[(2, .own (.l 2) 0), (3, .v (.slice a (spl 32 l).length c)), (4, .own (.l 4) 0), (34, .v (.int .i64 i))], [(.l 2, .box [.v (.int .i64 0), .v (.int .i64 0), .v (.int .i64 0), .v (.int .u8 0), .v (.int .u8 0), .v (.int .u8 0), .v (.int .u8 0), .v (.int .u8 0), .v (.int .u8 0), .v (.int .u8 0), .v (.int .u8 0), .v (.int .u8 0), .v (.int .u8 0), .v (.int .u8 0), .v (.int .u8 0), .v (.int .u8 0), .v (.int .u8 0), .v (.int .u8 0), .v (.int .u8 0), .v (.int .i64 0)] 40), (.l 4, .box [.v (.int .i64 0), .v (.int .i64 na), .v (.int .i64 nb), .v (.int .u8 (partV ph i 0)), .v (.int .u8 (partV ph i 1)), .v (.int .u8 (partV ph i 2)), .v (.int .u8 (partV ph i 3)), .v (.int .u8 (partV ph i 4)), .v (.int .u8 (partV ph i 5)), .v (.int .u8 (partV ph i 6)), .v (.int .u8 (partV ph i 7)), .v (.int .u8 (partV ph i 8)), .v (.int .u8 (partV ph i 9)), .v (.int .u8 (partV ph i 10)), .v (.int .u8 (partV ph i 11)), .v (.int .u8 (partV ph i 12)), .v (.int .u8 (partV ph i 13)), .v (.int .u8 (partV ph i 14)), .v (.int .u8 (partV ph i 15)), .v (.int .i64 nc)] 40)], F2⟩) (fun i => i ≤ 16 ∧ ∀ j, j < i → badV ph j = false) (fun i => 16 - i) 0 (Le.refl _) ⟨Nat.zero_le _, fun j hj => absurd hj (Nat.not_lt_zero j)⟩ fun i hx => ?_
  obtain ⟨hi, hbv⟩ := hx
  refine SC.seqN [2, 3, 4, 34, 35] [.l 2, .l 4] fun K7 hK7 => SC.region ?_
  simp -implicitDefEqProofs only [push_cast, ↓reduceIte, Nat.reduceEqDiff, Nat.reduceAdd, Nat.reduceMul, Nat.reduceSub, Nat.reduceLeDiff, Nat.reduceLT, reduceCtorEq]
  refine hK7 _ ?_
  clear hK7
  refine SC.seqN [2, 3, 4, 34] [.l 2, .l 4] fun K8 hK8 => ?_
  refine SC.cond ?_
  simp -implicitDefEqProofs only [push_cast, ↓reduceIte, Nat.reduceEqDiff, Nat.reduceAdd, Nat.reduceMul, Nat.reduceSub, Nat.reduceLeDiff, Nat.reduceLT, reduceCtorEq]
  refine ⟨fun h1 => ?_, fun h1 => ?_⟩
  · skip
    have hi2 : i < 16 := by omega
    have htz := tx_size ph
    have hv0 := valL_bd (byV ph (2 * i))
    have hv1 := valL_bd (byV ph (2 * i + 1))
    have hb0 := byV_bd ph (2 * i)
    have hb1 := byV_bd ph (2 * i + 1)
    have ht0 : (2 * (i : Int)).toNat = 2 * i := by omega
    have ht1 : (2 * (i : Int) + 1).toNat = 2 * i + 1 := by omega
    refine SC.skip ?_
    simp -implicitDefEqProofs only [push_cast, ↓reduceIte, Nat.reduceEqDiff, Nat.reduceAdd, Nat.reduceMul, Nat.reduceSub, Nat.reduceLeDiff, Nat.reduceLT, reduceCtorEq]
    refine hK8 _ ?_
    clear hK8
    refine SC.seqN [2, 3, 4, 34] [.l 2, .l 4] fun K9 hK9 => ?_
    refine SC.block ?_
    refine SC.seqN [2, 3, 4, 5, 34] [.l 2, .l 4] fun K10 hK10 => SC.region ?_
    simp -implicitDefEqProofs only [push_cast, ↓reduceIte, Nat.reduceEqDiff, Nat.reduceAdd, Nat.reduceMul, Nat.reduceSub, Nat.reduceLeDiff, Nat.reduceLT, reduceCtorEq]
    refine hK10 _ ?_
    clear hK10
    refine SC.seqN [2, 3, 4, 5, 6, 7, 34] [.l 2, .l 4] fun K11 hK11 => SC.drawnP (.take 0 (.take 1 (.take 3 (.take 4 (.take 7 (.take 8 (.take 10 (.take 11 (.take 12 (.load 2 (.take 5 (.load 9 (.take 13 (.forkE 6 [38, 45] (.forkE 14 [38, 45] (.take 15 (.take 16 (.done))) (.stop)) (.stop))))))))))))))) (by kernel_rfl) (by kernel_rfl) (fun _ _ h => h) ?_
    simp -implicitDefEqProofs only [push_cast, ↓reduceIte, Nat.reduceEqDiff, Nat.reduceAdd, Nat.reduceMul, Nat.reduceSub, Nat.reduceLeDiff, Nat.reduceLT, reduceCtorEq]
    suffices key11 : K11 ⟨[(2, .own (.l 2) 0), (3, .v (.slice a (spl 32 l).length c)), (4, .own (.l 4) 0), (5, .v (.int .i64 i)), (6, .v (.int .i64 (valL (byV ph (2 * i))))), (7, .v (.int .i64 (valL (byV ph (2 * i + 1))))), (34, .v (.int .i64 i))], [(.l 2, .box [.v (.int .i64 0), .v (.int .i64 0), .v (.int .i64 0), .v (.int .u8 0), .v (.int .u8 0), .v (.int .u8 0), .v (.int .u8 0), .v (.int .u8 0), .v (.int .u8 0), .v (.int .u8 0), .v (.int .u8 0), .v (.int .u8 0), .v (.int .u8 0), .v (.int .u8 0), .v (.int .u8 0), .v (.int .u8 0), .v (.int .u8 0), .v (.int .u8 0), .v (.int .u8 0), .v (.int .i64 0)] 40), (.l 4, .box [.v (.int .i64 0), .v (.int .i64 na), .v (.int .i64 nb), .v (.int .u8 (partV ph i 0)), .v (.int .u8 (partV ph i 1)), .v (.int .u8 (partV ph i 2)), .v (.int .u8 (partV ph i 3)), .v (.int .u8 (partV ph i 4)), .v (.int .u8 (partV ph i 5)), .v (.int .u8 (partV ph i 6)), .v (.int .u8 (partV ph i 7)), .v (.int .u8 (partV ph i 8)), .v (.int .u8 (partV ph i 9)), .v (.int .u8 (partV ph i 10)), .v (.int .u8 (partV ph i 11)), .v (.int .u8 (partV ph i 12)), .v (.int .u8 (partV ph i 13)), .v (.int .u8 (partV ph i 14)), .v (.int .u8 (partV ph i 15)), .v (.int .i64 nc)] 40)], F2⟩ by
      clear hK5 hK9 hK11
      repeat' (first
        | exact key11
        | (with_reducible refine And.intro (rowF_some hFG (strs_ne (by omega))) ?_)
        | (with_reducible refine loadStr 3 hFG ha3 ?_ ?_
           · rfl
           simp -implicitDefEqProofs only [push_cast, ↓reduceIte, Nat.reduceEqDiff, Nat.reduceAdd, Nat.reduceMul, Nat.reduceSub, Nat.reduceLeDiff, Nat.reduceLT, reduceCtorEq])
        | (rw [ht0, tx_byV ph (by omega)])
        | (with_reducible refine callL_fn0 (indexByte_fn dgtL (byV ph (2 * i)) F2) ?_ (fun _ h => h) ?_
           · rfl
           intro v G hv
           subst hv
           simp -implicitDefEqProofs only [push_cast, ↓reduceIte, Nat.reduceEqDiff, Nat.reduceAdd, Nat.reduceMul, Nat.reduceSub, Nat.reduceLeDiff, Nat.reduceLT, reduceCtorEq, dgt_val hb0.1 hb0.2])
        | (rw [ht1, tx_byV ph (by omega)])
        | (with_reducible refine callL_fn0 (indexByte_fn dgtL (byV ph (2 * i + 1)) F2) ?_ (fun _ h => h) ?_
           · rfl
           intro v G hv
           subst hv
           simp -implicitDefEqProofs only [push_cast, ↓reduceIte, Nat.reduceEqDiff, Nat.reduceAdd, Nat.reduceMul, Nat.reduceSub, Nat.reduceLeDiff, Nat.reduceLT, reduceCtorEq, dgt_val hb1.1 hb1.2])
        | (with_reducible refine And.intro (by omega) ?_)
        | (with_reducible refine And.intro ?_ ?_)
        | intro h
        | exact rfl)
    refine hK11 _ ?_
    clear hK11
    refine SC.seqN [2, 3, 4, 5, 6, 7, 34] [.l 2, .l 4] fun K12 hK12 => SC.region ?_
    simp -implicitDefEqProofs only [push_cast, ↓reduceIte, Nat.reduceEqDiff, Nat.reduceAdd, Nat.reduceMul, Nat.reduceSub, Nat.reduceLeDiff, Nat.reduceLT, reduceCtorEq]
    suffices key12 : badV ph i = false → K12 ⟨[(2, .own (.l 2) 0), (3, .v (.slice a (spl 32 l).length c)), (4, .own (.l 4) 0), (5, .v (.int .i64 i)), (6, .v (.int .i64 (valL (byV ph (2 * i))))), (7, .v (.int .i64 (valL (byV ph (2 * i + 1))))), (34, .v (.int .i64 i))], [(.l 2, .box [.v (.int .i64 0), .v (.int .i64 0), .v (.int .i64 0), .v (.int .u8 0), .v (.int .u8 0), .v (.int .u8 0), .v (.int .u8 0), .v (.int .u8 0), .v (.int .u8 0), .v (.int .u8 0), .v (.int .u8 0), .v (.int .u8 0), .v (.int .u8 0), .v (.int .u8 0), .v (.int .u8 0), .v (.int .u8 0), .v (.int .u8 0), .v (.int .u8 0), .v (.int .u8 0), .v (.int .i64 0)] 40), (.l 4, .box [.v (.int .i64 0), .v (.int .i64 na), .v (.int .i64 nb), .v (.int .u8 (partV ph i 0)), .v (.int .u8 (partV ph i 1)), .v (.int .u8 (partV ph i 2)), .v (.int .u8 (partV ph i 3)), .v (.int .u8 (partV ph i 4)), .v (.int .u8 (partV ph i 5)), .v (.int .u8 (partV ph i 6)), .v (.int .u8 (partV ph i 7)), .v (.int .u8 (partV ph i 8)), .v (.int .u8 (partV ph i 9)), .v (.int .u8 (partV ph i 10)), .v (.int .u8 (partV ph i 11)), .v (.int .u8 (partV ph i 12)), .v (.int .u8 (partV ph i 13)), .v (.int .u8 (partV ph i 14)), .v (.int .u8 (partV ph i 15)), .v (.int .i64 nc)] 40)], F2⟩ by
      clear hK5 hK9 hK12
      refine ⟨fun h4 => ?_, fun h4 => ?_⟩
      · refine callL_fnE0 (must_fn (decide (0 ≤ valL (byV ph (2 * i + 1)))) F2) rfl (fun _ h => h) (fun v G hv => ?_) fun v hv => ?_
        · simp -implicitDefEqProofs only [push_cast, ↓reduceIte, Nat.reduceEqDiff, Nat.reduceAdd, Nat.reduceMul, Nat.reduceSub, Nat.reduceLeDiff, Nat.reduceLT, reduceCtorEq]
          refine key12 ?_
          have h5 := hv.1
          rw [decide_eq_true_eq] at h5
          simp only [badV, Bool.or_eq_false_iff, decide_eq_false_iff_not]
          omega
        · simp -implicitDefEqProofs only [push_cast, ↓reduceIte, Nat.reduceEqDiff, Nat.reduceAdd, Nat.reduceMul, Nat.reduceSub, Nat.reduceLeDiff, Nat.reduceLT, reduceCtorEq]
          refine ⟨sN (.inr (.inr (.inr (.inr (List.any_eq_true.2 ⟨i, List.mem_range.2 hi2, ?_⟩))))), hv.2⟩
          have h5 := hv.1
          rw [decide_eq_false_iff_not] at h5
          simp only [badV, Bool.or_eq_true, decide_eq_true_eq]
          omega
      · refine callL_fnE0 (must_fn false F2) rfl (fun _ h => h) (fun v G hv => by cases hv.1) fun v hv => ?_
        simp -implicitDefEqProofs only [push_cast, ↓reduceIte, Nat.reduceEqDiff, Nat.reduceAdd, Nat.reduceMul, Nat.reduceSub, Nat.reduceLeDiff, Nat.reduceLT, reduceCtorEq]
        refine ⟨sN (.inr (.inr (.inr (.inr (List.any_eq_true.2 ⟨i, List.mem_range.2 hi2, ?_⟩))))), hv.2⟩
        simp only [badV, Bool.or_eq_true, decide_eq_true_eq]
        omega
    intro hbi
    refine hK12 _ ?_
    clear hK12
    refine SC.region ?_
    simp -implicitDefEqProofs only [push_cast, ↓reduceIte, Nat.reduceEqDiff, Nat.reduceAdd, Nat.reduceMul, Nat.reduceSub, Nat.reduceLeDiff, Nat.reduceLT, reduceCtorEq]
    have h3' := hbi
    simp only [badV, Bool.or_eq_false_iff, decide_eq_false_iff_not] at h3'
    have e9 : 3 + ((i : Int).toNat * 1) = 3 + i := by omega
    refine ⟨by omega, by omega, by omega, by omega, by omega, ?_⟩
    rw [e9, show 16 * valL (byV ph (2 * i)) + valL (byV ph (2 * i + 1)) = bodyV ph i from rfl, partV_set ph _ _ _ _ hi2]
    refine hK9 _ ?_
    clear hK9
    refine SC.region ?_
    simp -implicitDefEqProofs only [push_cast, ↓reduceIte, Nat.reduceEqDiff, Nat.reduceAdd, Nat.reduceMul, Nat.reduceSub, Nat.reduceLeDiff, Nat.reduceLT, reduceCtorEq]
    refine ⟨by omega, i + 1, ⟨by omega, fun j hj => ?_⟩, by omega, Le.norm _ [2, 3, 4, 34] [.l 2, .l 4]⟩
    rcases Nat.lt_succ_iff_lt_or_eq.1 hj with hj | rfl
    · exact hbv j hj
    · exact hbi
  · skip
    refine SC.exit ?_
    simp -implicitDefEqProofs only [push_cast, ↓reduceIte, Nat.reduceEqDiff, Nat.reduceAdd, Nat.reduceMul, Nat.reduceSub, Nat.reduceLeDiff, Nat.reduceLT, reduceCtorEq]
    refine hK5 _ ?_
    clear hK5
    refine SC.seqN [2] [.l 2] fun K13 hK13 => SC.region ?_
    simp -implicitDefEqProofs only [push_cast, ↓reduceIte, Nat.reduceEqDiff, Nat.reduceAdd, Nat.reduceMul, Nat.reduceSub, Nat.reduceLeDiff, Nat.reduceLT, reduceCtorEq]
    refine hK13 _ ?_
    clear hK13
    refine SC.ret ?_
    simp -implicitDefEqProofs only [push_cast, ↓reduceIte, Nat.reduceEqDiff, Nat.reduceAdd, Nat.reduceMul, Nat.reduceSub, Nat.reduceLeDiff, Nat.reduceLT, reduceCtorEq, Tryd.f37]
    have h16 : i = 16 := by omega
    subst h16
    have h5 : ¬ (List.range 16).any (badV ph) = true := by
      rw [Bool.not_eq_true, List.any_eq_false]
      intro j hj
      rw [hbv j (List.mem_range.1 hj)]
      simp
    refine ⟨⟨0, na, nb, bodyV ph, nc⟩, ?_, ?_⟩
    · unfold segP
      rw [he]
      exact segQ_some hna hnb hnc hph h5
    · rfl
end Go.Proofs.YtmamodnpghlgcaaDoor
/- What the program's Parse reads is what the specification's reads; the deferred closure. -/

set_option linter.unusedSimpArgs false
set_option linter.unusedVariables false
set_option maxRecDepth 100000
set_option maxHeartbeats 4000000
namespace Go.Proofs.YtmamodnpghlgcaaDoor
open Go.RowKit
theorem segQ_inv {pa pb pc ph : List UInt8} {s : Seg} (h : segQ [pa, pb, pc, ph] = some s) : numP pa = some s.beg ∧ numP pb = some s.len ∧ numP pc = some s.size := by
  unfold segQ at h
  simp only at h
  split at h
  · split at h
    · rename_i a b c h1 h2 h3
      split at h
      · cases h
      · obtain rfl := Option.some.inj h
        exact ⟨h1, h2, h3⟩
    · cases h
  · cases h
theorem right_off {s : Seg} (h : s.beg < 0 ∨ 1125899906842624 ≤ s.beg ∨ s.len < 0 ∨ 1125899906842624 ≤ s.len ∨ s.size < 0 ∨ 1125899906842624 ≤ s.size) : rightB s = false := by
  rw [Bool.eq_false_iff]
  intro hr
  have := right_bd hr
  omega
theorem seg_law (x : List UInt8) : segP x = some (lineL x) ∨ ((∀ n, rightB (numS (lineL x) n) = false) ∧ ∀ s, segP x = some s → ∀ n, rightB (numS s n) = false) := by
  have hbad : ∀ n, rightB (numS badS n) = false := fun n => right_off (.inl (by show (-1 : Int) < 0; decide))
  unfold segP lineL
  by_cases h4 : (spl 32 x).length = 4
  · obtain ⟨pa, pb, pc, ph, he⟩ : ∃ pa pb pc ph, spl 32 x = [pa, pb, pc, ph] := by
      match h6 : spl 32 x, h4 with
      | [pa, pb, pc, ph], _ => exact ⟨pa, pb, pc, ph, rfl⟩
    rw [he, lineQ_four]
    by_cases h32 : ph.length = 32
    · rw [if_pos h32]
      unfold lineP
      by_cases hb : (List.range 16).any (badV ph) = true
      · rw [if_pos hb, segQ_none (.inr (.inr (.inr (.inr hb))))]
        exact .inr ⟨hbad, fun s hs => by cases hs⟩
      · rw [if_neg hb]
        rcases num_law pa with ha | ⟨ha, ha2⟩
        · rcases num_law pb with hbb | ⟨hbb, hb2⟩
          · rcases num_law pc with hc | ⟨hc, hc2⟩
            · exact .inl (segQ_some ha hbb hc h32 hb)
            · refine .inr ⟨fun n => right_off (.inr (.inr (.inr (.inr (.inl ?_))))), fun s hs n => right_off ?_⟩
              · show numL pc < 0; omega
              · have := hc2 _ (segQ_inv hs).2.2
                show s.beg < 0 ∨ _ ∨ s.len < 0 ∨ _ ∨ s.size < 0 ∨ 1125899906842624 ≤ s.size
                omega
          · refine .inr ⟨fun n => right_off (.inr (.inr (.inl ?_))), fun s hs n => right_off ?_⟩
            · show numL pb < 0; omega
            · have := hb2 _ (segQ_inv hs).2.1
              show s.beg < 0 ∨ _ ∨ s.len < 0 ∨ 1125899906842624 ≤ s.len ∨ _
              omega
        · refine .inr ⟨fun n => right_off (.inl ?_), fun s hs n => right_off ?_⟩
          · show numL pa < 0; omega
          · have := ha2 _ (segQ_inv hs).1
            show s.beg < 0 ∨ 1125899906842624 ≤ s.beg ∨ _
            omega
    · rw [if_neg h32, segQ_none (.inr (.inr (.inr (.inl h32))))]
      exact .inr ⟨hbad, fun s hs => by cases hs⟩
  · rw [lineQ_len h4, segQ_len h4]
    exact .inr ⟨hbad, fun s hs => by cases hs⟩
def segsW (f : Int) (q : List (List UInt8)) : List Seg := q.mapIdx fun i x => numS ((segP x).getD badS) (IntKind.i64.wrap (f + i))
theorem segsW_len (f : Int) (q : List (List UInt8)) : (segsW f q).length = q.length := by simp [segsW]
theorem segsW_succ (f : Int) {q : List (List UInt8)} {j : Nat} {x : List UInt8} (h : q[j]? = some x) : segsW f (q.take (j + 1)) = segsW f (q.take j) ++ [numS ((segP x).getD badS) (IntKind.i64.wrap (f + j))] := by
  have hj := (List.getElem?_eq_some_iff.1 h).1
  unfold segsW
  rw [List.take_add_one, h, List.mapIdx_append]
  have : (q.take j).length = j := by rw [List.length_take]; omega
  simp [this]
theorem invalid_first {f : Int} {l : List Seg} {d : Bool} (h : f < 0 ∨ 1099511627776 < f) : validB ⟨f, l, d⟩ = false := by
  rw [Bool.eq_false_iff]
  intro hv
  have := valid_bd hv
  simp only at this
  omega
theorem invalid_right {f : Int} {l : List Seg} {d : Bool} {s : Seg} (hs : s ∈ l) (h : rightB s = false) : validB ⟨f, l, d⟩ = false := by
  rw [Bool.eq_false_iff]
  intro hv
  have := valid_seg hv s hs
  rw [h] at this
  cases this
theorem readP_bad {f : Int} {q : List (List UInt8)} {d : Bool} (h : validB ⟨f, segsR f q, d⟩ = false) : readP f q d = (pl0, 3) := by
  unfold readP
  rw [if_neg (by rw [h]; simp)]
theorem read_bad {h5 : List UInt8} {q : List (List UInt8)} (d : Bool) (h : numP h5 = none ∨ ∃ x ∈ q, segP x = none) : readP (numL h5) q d = (pl0, 3) := by
  refine readP_bad ?_
  rcases h with h | ⟨x, hx, h⟩
  · rcases num_law h5 with h1 | ⟨h1, _⟩
    · rw [h] at h1; cases h1
    · exact invalid_first (.inl (by omega))
  · rcases seg_law x with h1 | ⟨h1, _⟩
    · rw [h] at h1; cases h1
    · obtain ⟨j, hj, rfl⟩ := List.getElem_of_mem hx
      refine invalid_right (s := numS (lineL q[j]) (numL h5 + j)) ?_ (h1 _)
      unfold segsR
      rw [List.mem_iff_getElem]
      exact ⟨j, by simpa using hj, by simp⟩
theorem read_good {h5 : List UInt8} {q : List (List UInt8)} (d : Bool) {f : Int} (hf : numP h5 = some f) (hq : ∀ x ∈ q, segP x ≠ none) (hl : q.length ≤ 1000000) : readP (numL h5) q d = if validB ⟨f, segsW f q, d⟩ then (⟨f, segsW f q, d⟩, 0) else (pl0, 3) := by
  rcases num_law h5 with h1 | ⟨h1, h2⟩
  · rw [hf] at h1
    obtain rfl : f = numL h5 := Option.some.inj h1
    generalize numL h5 = f at *
    by_cases hr : f < 0 ∨ 1099511627776 < f
    · rw [readP_bad (invalid_first hr), invalid_first hr]
      rfl
    · have hw : ∀ i : Nat, i < q.length → IntKind.i64.wrap (f + i) = f + i := fun i hi => IntWalk.i64_in _ (by omega)
      by_cases hall : ∀ x ∈ q, segP x = some (lineL x)
      · have he : segsW f q = segsR f q := by
          unfold segsW segsR
          refine List.ext_getElem (by simp) fun i h1 h2 => ?_
          have hi : i < q.length := by simpa using h1
          simp only [List.getElem_mapIdx]
          rw [hall _ (List.getElem_mem hi), hw i hi]
          rfl
        rw [he]
        rfl
      · simp only [Classical.not_forall] at hall
        obtain ⟨x, hx, hn⟩ := hall
        rcases seg_law x with h3 | ⟨h3, h4⟩
        · exact absurd h3 hn
        · obtain ⟨j, hj, rfl⟩ := List.getElem_of_mem hx
          obtain ⟨s, hs⟩ := Option.ne_none_iff_exists'.1 (hq _ hx)
          rw [readP_bad (invalid_right (s := numS (lineL q[j]) (f + j)) ?_ (h3 _)), invalid_right (s := numS s (IntKind.i64.wrap (f + j))) ?_ (h4 s hs _)]
          · rfl
          · unfold segsW
            rw [List.mem_iff_getElem]
            exact ⟨j, by simpa using hj, by simp [hs]⟩
          · unfold segsR
            rw [List.mem_iff_getElem]
            exact ⟨j, by simpa using hj, by simp⟩
  · have h3 := h2 f hf
    rw [h1, readP_bad (invalid_first (.inl (by decide))), invalid_first (by omega)]
    rfl
theorem Le.sub {st st' : St} (ht : ∀ i x, fd st'.tm i = some x → fd st.tm i = some x) (hk : ∀ k t, fd st'.th k = some t → fd st.th k = some t) (hF : st'.F = st.F) : Le st st' := fun cx a w ⟨e, s, h⟩ => ⟨e, s, { h with
    tm := fun i x hx => h.tm i x (ht i x hx)
    own := ⟨fun k t hx => h.own.holds k t (hk _ _ hx), fun k k' t t' g hx hx' => h.own.apart k k' t t' g (hk _ _ hx) (hk _ _ hx'), fun k t g hx => h.own.free k t g (hk _ _ hx)⟩
    fresh := fun k t g hx => h.fresh k t g (hk _ _ hx)
    fact := by rw [hF]; exact h.fact }⟩
theorem fd_nil {K A : Type} [DecidableEq K] {l : List (K × A)} : ∀ i x, fd ([] : List (K × A)) i = some x → fd l i = some x := fun i x h => by cases h
theorem fd_cons {K A : Type} [DecidableEq K] {l r : List (K × A)} {j : K} {y : A} (h : fd l j = some y) (hr : ∀ i x, fd r i = some x → fd l i = some x) : ∀ i x, fd ((j, y) :: r) i = some x → fd l i = some x := fun i x hx => by
  simp only [fd] at hx
  split at hx
  · rename_i hji
    rw [← hji, h, hx]
  · exact hr i x hx
theorem fd_shT_of : ∀ (l : List (Nat × SV)) (i : Nat), fd (shT l) (i + 1000000) = fd l i
  | [], i => rfl
  | (j, x) :: l, i => by
    simp only [shT, fd]
    by_cases h : j = i
    · rw [if_pos h, if_pos (by omega)]
    · rw [if_neg h, if_neg (by omega), fd_shT_of l i]
noncomputable def parseGc : Code := match Tryd.f32.body with
  | some (.seq _ c) => c
  | _ => .skip
def parseRes (l : List UInt8) (v : Value) (G : Fact) : Prop := ∃ pv, v = .tuple #[pv, .int .i64 (parseR l).2] ∧ isPl (parseR l).1 G pv
section
variable {l : List UInt8} {st : St} {cs : List SV} {e : SV}
theorem parse_le {x : Value} (h1 : fd st.tm 1000000 = some (.clo (.func 32) [.own (.l 2) 0, .own (.l 3) 0])) (h4 : fd st.tm 2 = some (.own (.l 2) 0)) (h5 : fd st.tm 3 = some (.own (.l 3) 0)) (h2 : fd st.th (.l 2) = some (.box cs 27)) (h3 : fd st.th (.l 3) = some (.box [e] 31))
    (h : SC Tryd.prog Tryd.f32.ntmps parseGc ⟨[(0, .own (.l 2) 0), (1, .own (.l 3) 0), (2, .v x), (1000002, .own (.l 2) 0), (1000003, .own (.l 3) 0)], [(.l 2, .box cs 27), (.l 3, .box [e] 31)], st.F⟩ (dR Tryd.prog Tryd.f15.results (parseRes l))) :
    dW Tryd.prog 32 Tryd.f32 parseGc 3 2 Tryd.f15.results (parseRes l) x st := by
  refine ⟨_, h1, by decide, SC.of_le h (Le.sub ?_ ?_ rfl)⟩
  · refine fd_cons ?_ (fd_cons ?_ (fd_cons ?_ (fd_cons ?_ (fd_cons ?_ fd_nil))))
    · rw [fd_up_ne _ _ (by decide), fd_up_ne _ _ (by decide)]
      rfl
    · rw [fd_up_ne _ _ (by decide), fd_up_ne _ _ (by decide)]
      rfl
    · rw [fd_up_same]
    · rw [fd_up_ne _ _ (by decide), fd_up_ne _ _ (by decide)]
      simp only [tmS, fd]
      rw [if_neg (by decide), if_neg (by decide), ← h4]
      exact fd_shT_of st.tm 2
    · rw [fd_up_ne _ _ (by decide), fd_up_ne _ _ (by decide)]
      simp only [tmS, fd]
      rw [if_neg (by decide), if_neg (by decide), ← h5]
      exact fd_shT_of st.tm 3
  · exact fd_cons h2 (fd_cons h3 fd_nil)
end
theorem parse_pan {l : List UInt8} {st : St} {x y z e : SV} (hl : parseR l = (pl0, 3)) (h1 : fd st.tm 1000000 = some (.clo (.func 32) [.own (.l 2) 0, .own (.l 3) 0])) (h4 : fd st.tm 2 = some (.own (.l 2) 0)) (h5 : fd st.tm 3 = some (.own (.l 3) 0)) (h2 : fd st.th (.l 2) = some (.box [x, y, z] 27)) (h3 : fd st.th (.l 3) = some (.box [e] 31)) :
    dQ Tryd.prog 32 Tryd.f32 parseGc 3 2 Tryd.f15.results (parseRes l) (.pan errV) st := by
  refine parse_le h1 h4 h5 h2 h3 ?_
  refine SC.seqN [0, 1, 2, 5, 1000002, 1000003] [.l 2, .l 3] fun K2 hK2 => SC.region ?_
  simp -implicitDefEqProofs only [push_cast, ↓reduceIte, Nat.reduceEqDiff, Nat.reduceAdd, Nat.reduceMul, Nat.reduceSub, Nat.reduceLeDiff, Nat.reduceLT, reduceCtorEq, errV]
  refine hK2 _ ?_
  clear hK2
  refine SC.cond ?_
  simp -implicitDefEqProofs only [push_cast, ↓reduceIte, Nat.reduceEqDiff, Nat.reduceAdd, Nat.reduceMul, Nat.reduceSub, Nat.reduceLeDiff, Nat.reduceLT, reduceCtorEq]
  refine SC.drawnP (.take 0 (.take 1 (.take 2 (.fork 3 (.fork 4 (.done) (.stop)) (.stop))))) (by kernel_rfl) (by kernel_rfl) (fun _ _ h => h) ?_
  simp -implicitDefEqProofs only [push_cast, ↓reduceIte, Nat.reduceEqDiff, Nat.reduceAdd, Nat.reduceMul, Nat.reduceSub, Nat.reduceLeDiff, Nat.reduceLT, reduceCtorEq]
  rw [dR_nrm]
  simp -implicitDefEqProofs only [push_cast, ↓reduceIte, Nat.reduceEqDiff, Nat.reduceAdd, Nat.reduceMul, Nat.reduceSub, Nat.reduceLeDiff, Nat.reduceLT, reduceCtorEq, Tryd.f15]
  unfold parseRes
  rw [hl]
  exact ⟨_, rfl, isPl0 _⟩
theorem parse_ret {l : List UInt8} {st : St} {p : Pl} {a : Option Addr} {c : Nat} (hl : parseR l = (p, 0)) (h1 : fd st.tm 1000000 = some (.clo (.func 32) [.own (.l 2) 0, .own (.l 3) 0])) (h4 : fd st.tm 2 = some (.own (.l 2) 0)) (h5 : fd st.tm 3 = some (.own (.l 3) 0)) (h2 : fd st.th (.l 2) = some (.box [.v (.int .i64 p.first), .v (.slice a p.l.length c), .v (.bool p.done)] 27)) (h3 : fd st.th (.l 3) = some (.box [.v (.int .i64 0)] 31)) (hc : p.l.length ≤ c) (hF : st.F.to (rowF a (segsC p.l))) :
    dQ Tryd.prog 32 Tryd.f32 parseGc 3 2 Tryd.f15.results (parseRes l) .ret st := by
  refine parse_le h1 h4 h5 h2 h3 ?_
  refine SC.seqN [0, 1, 2, 5, 1000002, 1000003] [.l 2, .l 3] fun K2 hK2 => SC.region ?_
  simp -implicitDefEqProofs only [push_cast, ↓reduceIte, Nat.reduceEqDiff, Nat.reduceAdd, Nat.reduceMul, Nat.reduceSub, Nat.reduceLeDiff, Nat.reduceLT, reduceCtorEq]
  refine ⟨rfl, ?_⟩
  refine hK2 _ ?_
  clear hK2
  refine SC.cond ?_
  simp -implicitDefEqProofs only [push_cast, ↓reduceIte, Nat.reduceEqDiff, Nat.reduceAdd, Nat.reduceMul, Nat.reduceSub, Nat.reduceLeDiff, Nat.reduceLT, reduceCtorEq]
  refine SC.skip ?_
  rw [dR_nrm]
  simp -implicitDefEqProofs only [push_cast, ↓reduceIte, Nat.reduceEqDiff, Nat.reduceAdd, Nat.reduceMul, Nat.reduceSub, Nat.reduceLeDiff, Nat.reduceLT, reduceCtorEq, Tryd.f15]
  unfold parseRes
  rw [hl]
  exact ⟨_, rfl, a, c, rfl, hc, hF⟩
end Go.Proofs.YtmamodnpghlgcaaDoor
/- Parse of the program. -/

set_option linter.unusedSimpArgs false
set_option linter.unusedVariables false
set_option maxRecDepth 100000
set_option maxHeartbeats 4000000
namespace Go.Proofs.YtmamodnpghlgcaaDoor
open Go.RowKit
def noPan (Q : SEx → St → Prop) : SEx → St → Prop
  | .pan _, _ => False
  | e, st => Q e st
theorem noPan_nrm (Q : SEx → St → Prop) (st : St) : noPan Q .nrm st = Q .nrm st := rfl
theorem noPan_pan (Q : SEx → St → Prop) (v : Value) (st : St) : noPan Q (.pan v) st = False := rfl
theorem SC.noPan {P : Program} {nt : Nat} {c : Code} {st : St} {Q : SEx → St → Prop} (h : SC P nt c st (noPan Q)) : SC P nt c st Q := h.mono fun e st hq => by
  cases e with
  | pan v => exact hq.elim
  | _ => exact hq
theorem parse_bad0 {l : List UInt8} (hl : l.length ≤ 65536) (h : (spl 10 l).length < 2 ∨ (spl 10 l).getLast? ≠ some []) : parseR l = (pl0, 3) := by
  unfold parseR
  rw [if_neg (by omega), if_pos h]
theorem parse_good2 {l : List UInt8} {h : List UInt8} {t : List (List UInt8)} (hq : spl 10 l = h :: (t ++ [[]])) (hl : l.length ≤ 65536) (h5 : h.take 5 = liveT) : parseR l = readP (numL (h.drop 5)) (if isD t then t.dropLast else t) (isD t) := by
  by_cases h6 : 6 ≤ h.length
  · exact parse_good hq hl h6 h5
  · rw [parse_bad2 hq hl (.inr (.inl (by omega)))]
    have hd : h.drop 5 = [] := List.drop_eq_nil_of_le (by omega)
    rw [hd]
    refine (readP_bad (invalid_first (.inl ?_))).symm
    have : numL [] = -1 := by
      unfold numL
      simp only [numG]
      rw [if_neg (dec_ne 0)]
    rw [this]
    decide
theorem parse_fn (l : List UInt8) (F : Fact) (hF : F.to libF) (hl : l.length ≤ 1000000) : Fn Tryd.prog 15 [.string (tx l)] F fun v G => parseRes l v G := by
  refine Fn.of_bodyD (g := 32) (gfn := Tryd.f32) (gc := parseGc) (d0 := 3) (d1 := 2) Tryd.func15 rfl (Nat.le_of_ble_eq_true rfl) (Nat.le_of_ble_eq_true rfl) (by kernel_rfl) Tryd.func32 rfl (Nat.le_of_ble_eq_true rfl) (by kernel_rfl) rfl (by kernel_rfl) (by decide) (by decide) ?_
  have htz := tx_size l
  refine SCD.seqN [0, 2, 3] [.l 2, .l 3] fun K1 hK1 => SC.region ?_
  simp -implicitDefEqProofs only [push_cast, ↓reduceIte, Nat.reduceEqDiff, Nat.reduceAdd, Nat.reduceMul, Nat.reduceSub, Nat.reduceLeDiff, Nat.reduceLT, reduceCtorEq]
  refine hK1 _ ?_
  clear hK1
  refine SCD.seqN [0, 2, 3] [.l 2, .l 3] fun K2 hK2 => ?_
  refine SC.seqN [0, 2, 3, 12, 1000000] [.l 2, .l 3, .l 83, .l 84, .l 900] fun K3 hK3 => SC.region ?_
  simp -implicitDefEqProofs only [push_cast, ↓reduceIte, Nat.reduceEqDiff, Nat.reduceAdd, Nat.reduceMul, Nat.reduceSub, Nat.reduceLeDiff, Nat.reduceLT, reduceCtorEq, htz]
  refine hK3 _ ?_
  clear hK3
  refine SC.cond ?_
  simp -implicitDefEqProofs only [push_cast, ↓reduceIte, Nat.reduceEqDiff, Nat.reduceAdd, Nat.reduceMul, Nat.reduceSub, Nat.reduceLeDiff, Nat.reduceLT, reduceCtorEq]
  refine ⟨fun h1 => ?_, fun h1 => ?_⟩
  · skip
    refine SC.seqN [2, 3, 1000000] [.l 2, .l 3, .l 83, .l 84, .l 900] fun K4 hK4 => SC.region ?_
    simp -implicitDefEqProofs only [push_cast, ↓reduceIte, Nat.reduceEqDiff, Nat.reduceAdd, Nat.reduceMul, Nat.reduceSub, Nat.reduceLeDiff, Nat.reduceLT, reduceCtorEq]
    refine hK4 _ ?_
    clear hK4
    refine SC.ret ?_
    simp -implicitDefEqProofs only [push_cast, ↓reduceIte, Nat.reduceEqDiff, Nat.reduceAdd, Nat.reduceMul, Nat.reduceSub, Nat.reduceLeDiff, Nat.reduceLT, reduceCtorEq, Tryd.f15]
    unfold parseRes parseR
    rw [if_pos (by omega)]
    exact ⟨_, rfl, isPl0 _⟩
  · skip
    have hl2 : l.length ≤ 65536 := by omega
    refine SC.skip ?_
    simp -implicitDefEqProofs only [push_cast, ↓reduceIte, Nat.reduceEqDiff, Nat.reduceAdd, Nat.reduceMul, Nat.reduceSub, Nat.reduceLeDiff, Nat.reduceLT, reduceCtorEq]
    refine hK2 _ ?_
    clear hK2
    refine SCD.defer rfl rfl rfl (by decide) ?_
    simp -implicitDefEqProofs only [push_cast, ↓reduceIte, Nat.reduceEqDiff, Nat.reduceAdd, Nat.reduceMul, Nat.reduceSub, Nat.reduceLeDiff, Nat.reduceLT, reduceCtorEq]
    refine ⟨_, _, rfl, ?_⟩
    refine SC.seqN [2, 3, 4, 1000000] [.l 2, .l 3, .l 83, .l 84, .l 900] fun K6 hK6 => SC.region ?_
    simp -implicitDefEqProofs only [push_cast, ↓reduceIte, Nat.reduceEqDiff, Nat.reduceAdd, Nat.reduceMul, Nat.reduceSub, Nat.reduceLeDiff, Nat.reduceLT, reduceCtorEq]
    refine callL_fn (split_lib_fn l 10 F hF (by omega)) rfl (fun _ h => h) ?_
    rintro v G ⟨a, c, rfl, hc, hG⟩
    simp -implicitDefEqProofs only [push_cast, ↓reduceIte, Nat.reduceEqDiff, Nat.reduceAdd, Nat.reduceMul, Nat.reduceSub, Nat.reduceLeDiff, Nat.reduceLT, reduceCtorEq]
    have hFG : (F.and G).to (rowF a (strs (spl 10 l))) := Fact.to_right hG
    have hFl : (F.and G).to libF := Fact.to_left hF
    generalize F.and G = F2 at *
    have hpl := spl_part_len (b := 10) (l := l)
    have hsl := spl_length 10 l
    have hq0 : 0 < (spl 10 l).length := List.length_pos_iff.2 (spl_ne 10 l)
    have hb0 := parse_bad0 (l := l) hl2
    obtain ⟨q, hqe⟩ : ∃ q, spl 10 l = q := ⟨_, rfl⟩
    rw [hqe] at hc hFG hpl hsl hq0 hb0 ⊢
    refine hK6 _ ?_
    clear hK6
    refine SC.seqN [2, 3, 4, 1000000] [.l 2, .l 3, .l 83, .l 84, .l 900] fun K7 hK7 => SC.region ?_
    simp -implicitDefEqProofs only [push_cast, ↓reduceIte, Nat.reduceEqDiff, Nat.reduceAdd, Nat.reduceMul, Nat.reduceSub, Nat.reduceLeDiff, Nat.reduceLT, reduceCtorEq]
    suffices key7 : q.getLast? = some [] → K7 ⟨[(2, .own (.l 2) 0), (3, .own (.l 3) 0), (4, .v (.slice a q.length c)), (1000000, .clo (.func 32) [.own (.l 2) 0, .own (.l 3) 0])], [(.l 2, .box [.v (.int .i64 0), .v (.slice none 0 0), .v (.bool false)] 27), (.l 3, .box [.v (.int .i64 0)] 31)], F2⟩ by
      clear hK7
      obtain ⟨z, hz⟩ : ∃ z, q[q.length - 1]? = some z := ⟨_, List.getElem?_eq_getElem (by omega)⟩
      have hz2 : q.getLast? = some z := by rw [List.getLast?_eq_getElem?, hz]
      have he : (⟨#[]⟩ : ByteArray) = tx [] := rfl
      refine ⟨by omega, by omega, rowF_some hFG (strs_ne (by omega)), loadStr (q.length - 1) hFG hz (by omega) ?_⟩
      simp -implicitDefEqProofs only [push_cast, ↓reduceIte, Nat.reduceEqDiff, Nat.reduceAdd, Nat.reduceMul, Nat.reduceSub, Nat.reduceLeDiff, Nat.reduceLT, reduceCtorEq, he, tx_inj]
      refine callL_fnE0 (must_fn (decide (z = [])) F2) rfl (fun _ h => h) (fun v G hv => ?_) fun v hv => ?_
      · simp -implicitDefEqProofs only [push_cast, ↓reduceIte, Nat.reduceEqDiff, Nat.reduceAdd, Nat.reduceMul, Nat.reduceSub, Nat.reduceLeDiff, Nat.reduceLT, reduceCtorEq]
        have hv1 := hv.1
        refine key7 ?_
        rw [decide_eq_true_eq] at hv1
        rw [hz2, hv1]
      · simp -implicitDefEqProofs only [push_cast, ↓reduceIte, Nat.reduceEqDiff, Nat.reduceAdd, Nat.reduceMul, Nat.reduceSub, Nat.reduceLeDiff, Nat.reduceLT, reduceCtorEq]
        obtain ⟨hv1, rfl⟩ := hv
        refine parse_pan ?_ rfl rfl rfl rfl rfl
        rw [decide_eq_false_iff_not] at hv1
        refine hb0 (.inr ?_)
        rw [hz2]
        simpa using hv1
    intro hlast
    refine hK7 _ ?_
    clear hK7
    refine SC.seqN [2, 3, 4, 1000000] [.l 2, .l 3, .l 83, .l 84, .l 900] fun K8 hK8 => SC.region ?_
    simp -implicitDefEqProofs only [push_cast, ↓reduceIte, Nat.reduceEqDiff, Nat.reduceAdd, Nat.reduceMul, Nat.reduceSub, Nat.reduceLeDiff, Nat.reduceLT, reduceCtorEq]
    rw [slA_zero, show ((q.length : Int) - 1).toNat = q.length - 1 by omega]
    refine ⟨by omega, by omega, ?_⟩
    refine hK8 _ ?_
    clear hK8
    refine SC.seqN [2, 3, 4, 1000000] [.l 2, .l 3, .l 83, .l 84, .l 900] fun K9 hK9 => SC.region ?_
    simp -implicitDefEqProofs only [push_cast, ↓reduceIte, Nat.reduceEqDiff, Nat.reduceAdd, Nat.reduceMul, Nat.reduceSub, Nat.reduceLeDiff, Nat.reduceLT, reduceCtorEq]
    suffices key9 : 2 ≤ q.length → K9 ⟨[(2, .own (.l 2) 0), (3, .own (.l 3) 0), (4, .v (.slice a (q.length - 1) c)), (1000000, .clo (.func 32) [.own (.l 2) 0, .own (.l 3) 0])], [(.l 2, .box [.v (.int .i64 0), .v (.slice none 0 0), .v (.bool false)] 27), (.l 3, .box [.v (.int .i64 0)] 31)], F2⟩ by
      clear hK9
      refine callL_fnE0 (must_fn (decide ((0 : Int) < ((q.length - 1 : Nat) : Int))) F2) rfl (fun _ h => h) (fun v G hv => ?_) fun v hv => ?_
      · simp -implicitDefEqProofs only [push_cast, ↓reduceIte, Nat.reduceEqDiff, Nat.reduceAdd, Nat.reduceMul, Nat.reduceSub, Nat.reduceLeDiff, Nat.reduceLT, reduceCtorEq]
        have hv1 := hv.1
        refine key9 ?_
        rw [decide_eq_true_eq] at hv1
        omega
      · simp -implicitDefEqProofs only [push_cast, ↓reduceIte, Nat.reduceEqDiff, Nat.reduceAdd, Nat.reduceMul, Nat.reduceSub, Nat.reduceLeDiff, Nat.reduceLT, reduceCtorEq]
        obtain ⟨hv1, rfl⟩ := hv
        refine parse_pan ?_ rfl rfl rfl rfl rfl
        rw [decide_eq_false_iff_not] at hv1
        exact hb0 (.inl (by omega))
    intro hq2
    obtain ⟨h, t0, z, rfl⟩ := two_ends hq2
    obtain rfl : z = [] := by
      rw [← List.cons_append, List.getLast?_concat] at hlast
      exact Option.some.inj hlast
    have hql : (h :: (t0 ++ [[]])).length = t0.length + 2 := by simp
    have hF1 : F2.to (rowF a (strs (h :: t0))) := by
      have := rowF_take hFG (t0.length + 1)
      rwa [strs_take, show (h :: (t0 ++ [[]])).take (t0.length + 1) = h :: t0 by simp] at this
    have hhl : h.length ≤ 1000000 := Nat.le_trans (hpl h (by simp)) (by omega)
    rw [hql] at hc hsl ⊢
    rw [show t0.length + 2 - 1 = t0.length + 1 by omega]
    refine hK9 _ ?_
    clear hK9
    refine SC.seqN [2, 3, 4, 5, 6, 1000000] [.l 2, .l 3, .l 83, .l 84, .l 900] fun K10 hK10 => SC.region ?_
    simp -implicitDefEqProofs only [push_cast, ↓reduceIte, Nat.reduceEqDiff, Nat.reduceAdd, Nat.reduceMul, Nat.reduceSub, Nat.reduceLeDiff, Nat.reduceLT, reduceCtorEq]
    refine ⟨by omega, rowF_some hF1 (strs_ne (by simp)), loadStr 0 hF1 rfl rfl ?_⟩
    simp -implicitDefEqProofs only [push_cast, ↓reduceIte, Nat.reduceEqDiff, Nat.reduceAdd, Nat.reduceMul, Nat.reduceSub, Nat.reduceLeDiff, Nat.reduceLT, reduceCtorEq]
    refine callL_fn0 (cutPrefix_fn h liveT F2) rfl (fun _ h => h) fun v G hv => ?_
    subst hv
    simp -implicitDefEqProofs only [push_cast, ↓reduceIte, Nat.reduceEqDiff, Nat.reduceAdd, Nat.reduceMul, Nat.reduceSub, Nat.reduceLeDiff, Nat.reduceLT, reduceCtorEq]
    refine hK10 _ ?_
    clear hK10
    refine SC.seqN [2, 3, 4, 5, 1000000] [.l 2, .l 3, .l 83, .l 84, .l 900] fun K11 hK11 => SC.region ?_
    simp -implicitDefEqProofs only [push_cast, ↓reduceIte, Nat.reduceEqDiff, Nat.reduceAdd, Nat.reduceMul, Nat.reduceSub, Nat.reduceLeDiff, Nat.reduceLT, reduceCtorEq]
    suffices key11 : h.take 5 = liveT → K11 ⟨[(2, .own (.l 2) 0), (3, .own (.l 3) 0), (4, .v (.slice a (t0.length + 1) c)), (5, .v (.string (tx (h.drop 5)))), (1000000, .clo (.func 32) [.own (.l 2) 0, .own (.l 3) 0])], [(.l 2, .box [.v (.int .i64 0), .v (.slice none 0 0), .v (.bool false)] 27), (.l 3, .box [.v (.int .i64 0)] 31)], F2⟩ by
      clear hK11
      have hpx : Lib.hasPrefix h liveT = true ↔ h.take 5 = liveT := by
        unfold Lib.hasPrefix
        rw [List.isPrefixOf_iff_prefix]
        constructor
        · rintro ⟨r, rfl⟩
          simp [liveT]
        · intro hh
          exact ⟨h.drop 5, by rw [← hh, List.take_append_drop]⟩
      refine callL_fnE0 (must_fn (Lib.hasPrefix h liveT) F2) rfl (fun _ h => h) (fun v G hv => ?_) fun v hv => ?_
      · simp -implicitDefEqProofs only [push_cast, ↓reduceIte, Nat.reduceEqDiff, Nat.reduceAdd, Nat.reduceMul, Nat.reduceSub, Nat.reduceLeDiff, Nat.reduceLT, reduceCtorEq]
        have hv1 := hv.1
        have h5 := hpx.1 hv1
        have htp : Lib.trimPrefix h liveT = h.drop 5 := by
          unfold Lib.trimPrefix
          rw [if_pos hv1]
          rfl
        rw [htp]
        exact key11 h5
      · simp -implicitDefEqProofs only [push_cast, ↓reduceIte, Nat.reduceEqDiff, Nat.reduceAdd, Nat.reduceMul, Nat.reduceSub, Nat.reduceLeDiff, Nat.reduceLT, reduceCtorEq]
        obtain ⟨hv1, rfl⟩ := hv
        refine parse_pan ?_ rfl rfl rfl rfl rfl
        refine parse_bad2 hqe hl2 (.inr (.inr fun h5 => ?_))
        rw [hpx.2 h5] at hv1
        cases hv1
    intro h5
    have hpg := parse_good2 hqe hl2 h5
    refine hK11 _ ?_
    clear hK11
    refine SC.seqN [2, 3, 4, 1000000] [.l 2, .l 3, .l 83, .l 84, .l 900] fun K12 hK12 => SC.region ?_
    simp -implicitDefEqProofs only [push_cast, ↓reduceIte, Nat.reduceEqDiff, Nat.reduceAdd, Nat.reduceMul, Nat.reduceSub, Nat.reduceLeDiff, Nat.reduceLT, reduceCtorEq]
    suffices key12 : ∀ f, numP (h.drop 5) = some f → K12 ⟨[(2, .own (.l 2) 0), (3, .own (.l 3) 0), (4, .v (.slice a (t0.length + 1) c)), (1000000, .clo (.func 32) [.own (.l 2) 0, .own (.l 3) 0])], [(.l 2, .box [.v (.int .i64 f), .v (.slice none 0 0), .v (.bool false)] 27), (.l 3, .box [.v (.int .i64 0)] 31)], F2⟩ by
      clear hK12
      refine callL_fnE0 (numberP_fn (h.drop 5) F2 hFl (by simp; omega)) rfl (fun _ h => h) ?_ fun v hv => ?_
      · rintro v G ⟨f, hf, rfl⟩
        simp -implicitDefEqProofs only [push_cast, ↓reduceIte, Nat.reduceEqDiff, Nat.reduceAdd, Nat.reduceMul, Nat.reduceSub, Nat.reduceLeDiff, Nat.reduceLT, reduceCtorEq]
        exact key12 f hf
      · simp -implicitDefEqProofs only [push_cast, ↓reduceIte, Nat.reduceEqDiff, Nat.reduceAdd, Nat.reduceMul, Nat.reduceSub, Nat.reduceLeDiff, Nat.reduceLT, reduceCtorEq]
        obtain ⟨hv1, rfl⟩ := hv
        exact parse_pan (by rw [hpg]; exact read_bad _ (.inl hv1)) rfl rfl rfl rfl rfl
    intro f hf
    refine hK12 _ ?_
    clear hK12
    obtain ⟨a1, ha1⟩ : ∃ a1, slA a 1 c 1 = a1 := ⟨_, rfl⟩
    have hF0 : F2.to (rowF a1 (strs t0)) := by
      have := rowF_drop (c := c) (z := 1) hF1 1 (by simp [strs_length]; omega)
      rw [ha1] at this
      exact this
    refine SC.seqM [2, 3, 4, 1000000] [.l 2, .l 3, .l 83, .l 84, .l 900] fun K13 hK13 hJ13 => ?_
    have key13 : ∀ (d : Bool) (t : List (List UInt8)) (c2 : Nat), t.length ≤ c2 → F2.to (rowF a1 (strs t)) → t.length ≤ 65537 → (∀ x ∈ t, x.length ≤ 1000000) → parseR l = readP (numL (h.drop 5)) t d → K13 ⟨[(2, .own (.l 2) 0), (3, .own (.l 3) 0), (4, .v (.slice a1 t.length c2)), (1000000, .clo (.func 32) [.own (.l 2) 0, .own (.l 3) 0])], [(.l 2, .box [.v (.int .i64 f), .v (.slice none 0 0), .v (.bool d)] 27), (.l 3, .box [.v (.int .i64 0)] 31)], F2⟩ := by
      intro d t c2 hc2 hF3 htl htx hpr
      have hrb := read_bad (h5 := h.drop 5) (q := t) d
      have hrg := read_good (h5 := h.drop 5) (q := t) d hf
      rw [← hpr] at hrb hrg
      refine hK13 _ ?_
      refine SC.seqN [2, 3, 1000000] [.l 2, .l 3, .l 83, .l 84, .l 900] fun K14 hK14 => ?_
      refine SC.seqN [2, 3, 66, 67, 68, 1000000] [.l 2, .l 3, .l 83, .l 84, .l 900] fun K15 hK15 => SC.region ?_
      simp -implicitDefEqProofs only [push_cast, ↓reduceIte, Nat.reduceEqDiff, Nat.reduceAdd, Nat.reduceMul, Nat.reduceSub, Nat.reduceLeDiff, Nat.reduceLT, reduceCtorEq]
      refine hK15 _ ?_
      clear hK15
      refine SC.block ?_
      refine SC.adB (k := .l 2) (j := 1) (q := 900) (et := 40) (sz := 20) rfl rfl (by decide) (by simp -implicitDefEqProofs only [push_cast, ↓reduceIte, Nat.reduceEqDiff, Nat.reduceAdd, Nat.reduceMul, Nat.reduceSub, Nat.reduceLeDiff, Nat.reduceLT, reduceCtorEq]) (by simp -implicitDefEqProofs only [push_cast, ↓reduceIte, Nat.reduceEqDiff, Nat.reduceAdd, Nat.reduceMul, Nat.reduceSub, Nat.reduceLeDiff, Nat.reduceLT, reduceCtorEq]) ?_
      simp -implicitDefEqProofs only [push_cast, ↓reduceIte, Nat.reduceEqDiff, Nat.reduceAdd, Nat.reduceMul, Nat.reduceSub, Nat.reduceLeDiff, Nat.reduceLT, reduceCtorEq]
      refine SC.loop (fun j : Nat => ⟨[(2, .own (.l 2) 0), (3, .own (.l 3) 0), (66, .v (.slice a1 t.length c2)), (67, .v (.int .i64 t.length)), (68, .v (.int .i64 j)), (1000000, .clo (.func 32) [.own (.l 2) 0, .own (.l 3) 0])], [(.l 2, .box [.v (.int .i64 f), .row (.l 900), .v (.bool d)] 27), (.l 3, .box [.v (.int .i64 0)] 31), (.l 900, .row 40 20 j (segsC (segsW f (t.take j))))], F2⟩) (fun j => j ≤ t.length ∧ ∀ x ∈ t.take j, segP x ≠ none) (fun j => t.length - j) 0 (Le.refl _) ⟨Nat.zero_le _, fun x hx => by cases hx⟩ fun j hj => ?_
      obtain ⟨hj, hjs⟩ := hj
      refine SC.seqN [2, 3, 66, 67, 68, 69, 1000000] [.l 2, .l 3, .l 83, .l 84, .l 900] fun K16 hK16 => SC.region ?_
      simp -implicitDefEqProofs only [push_cast, ↓reduceIte, Nat.reduceEqDiff, Nat.reduceAdd, Nat.reduceMul, Nat.reduceSub, Nat.reduceLeDiff, Nat.reduceLT, reduceCtorEq]
      refine hK16 _ ?_
      clear hK16
      refine SC.seqN [2, 3, 66, 67, 68, 1000000] [.l 2, .l 3, .l 83, .l 84, .l 900] fun K17 hK17 => ?_
      refine SC.cond ?_
      simp -implicitDefEqProofs only [push_cast, ↓reduceIte, Nat.reduceEqDiff, Nat.reduceAdd, Nat.reduceMul, Nat.reduceSub, Nat.reduceLeDiff, Nat.reduceLT, reduceCtorEq]
      refine ⟨fun h2 => ?_, fun h2 => ?_⟩
      · skip
        have hjl : j < t.length := by omega
        have hgj : t[j]? = some t[j] := List.getElem?_eq_getElem hjl
        have hln : (t.take j).length = j := by rw [List.length_take]; omega
        refine SC.skip ?_
        simp -implicitDefEqProofs only [push_cast, ↓reduceIte, Nat.reduceEqDiff, Nat.reduceAdd, Nat.reduceMul, Nat.reduceSub, Nat.reduceLeDiff, Nat.reduceLT, reduceCtorEq]
        refine hK17 _ ?_
        clear hK17
        refine SC.seqN [2, 3, 66, 67, 68, 1000000] [.l 2, .l 3, .l 83, .l 84, .l 900] fun K18 hK18 => ?_
        refine SC.block ?_
        refine SC.seqN [2, 3, 7, 8, 66, 67, 68, 1000000] [.l 2, .l 3, .l 83, .l 84, .l 900] fun K19 hK19 => SC.region ?_
        simp -implicitDefEqProofs only [push_cast, ↓reduceIte, Nat.reduceEqDiff, Nat.reduceAdd, Nat.reduceMul, Nat.reduceSub, Nat.reduceLeDiff, Nat.reduceLT, reduceCtorEq]
        refine ⟨by omega, rowF_some hF3 (strs_ne (by omega)), loadStr j hF3 hgj rfl ?_⟩
        simp -implicitDefEqProofs only [push_cast, ↓reduceIte, Nat.reduceEqDiff, Nat.reduceAdd, Nat.reduceMul, Nat.reduceSub, Nat.reduceLeDiff, Nat.reduceLT, reduceCtorEq]
        refine hK19 _ ?_
        clear hK19
        refine SC.seqN [2, 3, 7, 9, 66, 67, 68, 1000000] [.l 2, .l 3, .l 9, .l 83, .l 84, .l 900] fun K20 hK20 => SC.region ?_
        simp -implicitDefEqProofs only [push_cast, ↓reduceIte, Nat.reduceEqDiff, Nat.reduceAdd, Nat.reduceMul, Nat.reduceSub, Nat.reduceLeDiff, Nat.reduceLT, reduceCtorEq]
        suffices key20 : ∀ sg, segP t[j] = some sg → K20 ⟨[(2, .own (.l 2) 0), (3, .own (.l 3) 0), (7, .v (.int .i64 j)), (9, .own (.l 9) 0), (66, .v (.slice a1 t.length c2)), (67, .v (.int .i64 t.length)), (68, .v (.int .i64 j)), (1000000, .clo (.func 32) [.own (.l 2) 0, .own (.l 3) 0])], [(.l 2, .box [.v (.int .i64 f), .row (.l 900), .v (.bool d)] 27), (.l 3, .box [.v (.int .i64 0)] 31), (.l 9, .box [.v (.int .i64 sg.num), .v (.int .i64 sg.beg), .v (.int .i64 sg.len), .v (.int .u8 (sg.body 0)), .v (.int .u8 (sg.body 1)), .v (.int .u8 (sg.body 2)), .v (.int .u8 (sg.body 3)), .v (.int .u8 (sg.body 4)), .v (.int .u8 (sg.body 5)), .v (.int .u8 (sg.body 6)), .v (.int .u8 (sg.body 7)), .v (.int .u8 (sg.body 8)), .v (.int .u8 (sg.body 9)), .v (.int .u8 (sg.body 10)), .v (.int .u8 (sg.body 11)), .v (.int .u8 (sg.body 12)), .v (.int .u8 (sg.body 13)), .v (.int .u8 (sg.body 14)), .v (.int .u8 (sg.body 15)), .v (.int .i64 sg.size)] 40), (.l 900, .row 40 20 j (segsC (segsW f (t.take j))))], F2⟩ by
          clear hK14 hK18 hK20
          refine callL_fnE0 (segment_fn t[j] F2 hFl (htx _ (List.getElem_mem hjl))) rfl (fun _ h => h) ?_ fun v hv => ?_
          · rintro v G ⟨sg, hsg, rfl⟩
            simp -implicitDefEqProofs only [push_cast, ↓reduceIte, Nat.reduceEqDiff, Nat.reduceAdd, Nat.reduceMul, Nat.reduceSub, Nat.reduceLeDiff, Nat.reduceLT, reduceCtorEq, segV, segC]
            exact key20 sg hsg
          · simp -implicitDefEqProofs only [push_cast, ↓reduceIte, Nat.reduceEqDiff, Nat.reduceAdd, Nat.reduceMul, Nat.reduceSub, Nat.reduceLeDiff, Nat.reduceLT, reduceCtorEq]
            obtain ⟨hv1, rfl⟩ := hv
            exact parse_pan (hrb (.inr ⟨_, List.getElem_mem hjl, hv1⟩)) rfl rfl rfl rfl rfl
        intro sg hsg
        refine hK20 _ ?_
        clear hK20
        refine SC.seqN [2, 3, 9, 66, 67, 68, 1000000] [.l 2, .l 3, .l 9, .l 83, .l 84, .l 900] fun K21 hK21 => SC.regionC ?_
        refine RC.sq 3 (Nat.le_of_ble_eq_true rfl) ?_
        simp only [List.drop_succ_cons, List.drop_zero, List.take_succ_cons, List.take_zero, push_cast, ↓reduceIte, Nat.reduceEqDiff, Nat.reduceAdd, Nat.reduceMul, Nat.reduceSub, Nat.reduceLeDiff, Nat.reduceLT, reduceCtorEq]
        refine RC.op (o := ⟨some 78, .binOp .add 3 (.tmp 76) (.tmp 77) 3, 3, _, _, none⟩) rfl rfl fun cx => opOK_addW rfl rfl rfl ?_
        simp -implicitDefEqProofs only [push_cast, ↓reduceIte, Nat.reduceEqDiff, Nat.reduceAdd, Nat.reduceMul, Nat.reduceSub, Nat.reduceLeDiff, Nat.reduceLT, reduceCtorEq]
        refine RC.sq 2 (Nat.le_of_ble_eq_true rfl) ?_
        simp only [List.drop_succ_cons, List.drop_zero, List.take_succ_cons, List.take_zero, push_cast, ↓reduceIte, Nat.reduceEqDiff, Nat.reduceAdd, Nat.reduceMul, Nat.reduceSub, Nat.reduceLeDiff, Nat.reduceLT, reduceCtorEq]
        refine RC.done (by exact Nat.le_of_ble_eq_true rfl) ?_
        simp -implicitDefEqProofs only [push_cast, ↓reduceIte, Nat.reduceEqDiff, Nat.reduceAdd, Nat.reduceMul, Nat.reduceSub, Nat.reduceLeDiff, Nat.reduceLT, reduceCtorEq]
        refine hK21 _ ?_
        clear hK21
        refine SC.region ?_
        simp -implicitDefEqProofs only [push_cast, ↓reduceIte, Nat.reduceEqDiff, Nat.reduceAdd, Nat.reduceMul, Nat.reduceSub, Nat.reduceLeDiff, Nat.reduceLT, reduceCtorEq]
        suffices hk : K18 ⟨[(2, .own (.l 2) 0), (3, .own (.l 3) 0), (66, .v (.slice a1 t.length c2)), (67, .v (.int .i64 t.length)), (68, .v (.int .i64 j)), (1000000, .clo (.func 32) [.own (.l 2) 0, .own (.l 3) 0])], [(.l 2, .box [.v (.int .i64 f), .row (.l 84), .v (.bool d)] 27), (.l 3, .box [.v (.int .i64 0)] 31), (.l 83, .row 40 20 1 (segC (numS sg (IntKind.i64.wrap (f + j))))), (.l 84, .row 40 20 (j + 1) (segsC (segsW f (t.take j)) ++ segC (numS sg (IntKind.i64.wrap (f + j)))))], F2⟩ by
          repeat' (first
            | exact hk
            | exact segC_one (numS sg (IntKind.i64.wrap (f + j)))
            | (with_reducible refine And.intro (by omega) ?_)
            | (with_reducible refine And.intro ?_ ?_)
            | intro h
            | exact rfl)
          all_goals (first | omega | (rw [mxl]; omega))
        refine hK18 _ ?_
        clear hK18
        refine SC.of_le ?_ (Le.sw _ [(84, 900)])
        simp -implicitDefEqProofs only [push_cast, ↓reduceIte, Nat.reduceEqDiff, Nat.reduceAdd, Nat.reduceMul, Nat.reduceSub, Nat.reduceLeDiff, Nat.reduceLT, reduceCtorEq]
        refine SC.region ?_
        simp -implicitDefEqProofs only [push_cast, ↓reduceIte, Nat.reduceEqDiff, Nat.reduceAdd, Nat.reduceMul, Nat.reduceSub, Nat.reduceLeDiff, Nat.reduceLT, reduceCtorEq]
        refine ⟨by omega, ?_⟩
        refine ⟨j + 1, ⟨by omega, fun x hx => ?_⟩, by omega, Le.trans (Le.norm _ [2, 3, 66, 67, 68, 1000000] [.l 2, .l 3, .l 900]) ?_⟩
        · rw [List.take_add_one, hgj] at hx
          rcases List.mem_append.1 hx with hx | hx
          · exact hjs x hx
          · simp only [Option.toList_some, List.mem_singleton] at hx
            rw [hx, hsg]
            simp
        · simp -implicitDefEqProofs only [push_cast, ↓reduceIte, Nat.reduceEqDiff, Nat.reduceAdd, Nat.reduceMul, Nat.reduceSub, Nat.reduceLeDiff, Nat.reduceLT, reduceCtorEq]
          rw [segsW_succ f hgj, segsC_snoc, hsg]
          exact Le.refl _
      · skip
        have hjn : j = t.length := by omega
        have htt : t.take j = t := by rw [hjn]; simp
        rw [htt] at hjs
        have hrg := hrg hjs (by omega)
        refine SC.exit ?_
        simp -implicitDefEqProofs only [push_cast, ↓reduceIte, Nat.reduceEqDiff, Nat.reduceAdd, Nat.reduceMul, Nat.reduceSub, Nat.reduceLeDiff, Nat.reduceLT, reduceCtorEq]
        refine hK14 _ ?_
        clear hK14
        refine SC.frzRow (k := .l 900) rfl (by rw [segsC_length, segsW_len, htt, hjn]) fun ao b co hco => ?_
        simp -implicitDefEqProofs only [push_cast, ↓reduceIte, Nat.reduceEqDiff, Nat.reduceAdd, Nat.reduceMul, Nat.reduceSub, Nat.reduceLeDiff, Nat.reduceLT, reduceCtorEq]
        obtain ⟨F3, hF3e⟩ : ∃ F3, F3 = F2.and (rowF ao (segsC (segsW f (t.take j)))) := ⟨_, rfl⟩
        have hF4 : F3.to (rowF ao (segsC (segsW f t))) := by rw [hF3e, htt]; exact Fact.to_right (Fact.to_refl _)
        rw [← hF3e]
        have hpl9 : isPl ⟨f, segsW f t, d⟩ F3 (plV f ao j co d) := ⟨ao, co, by rw [segsW_len, hjn], by rw [segsW_len]; show t.length ≤ co; omega, hF4⟩
        refine SC.seqN [2, 3, 1000000] [.l 2, .l 3, .l 83, .l 84, .l 900] fun K22 hK22 => SC.region ?_
        simp -implicitDefEqProofs only [push_cast, ↓reduceIte, Nat.reduceEqDiff, Nat.reduceAdd, Nat.reduceMul, Nat.reduceSub, Nat.reduceLeDiff, Nat.reduceLT, reduceCtorEq]
        suffices key22 : validB ⟨f, segsW f t, d⟩ = true → K22 ⟨[(2, .own (.l 2) 0), (3, .own (.l 3) 0), (1000000, .clo (.func 32) [.own (.l 2) 0, .own (.l 3) 0])], [(.l 2, .box [.v (.int .i64 f), .v (.slice ao j co), .v (.bool d)] 27), (.l 3, .box [.v (.int .i64 0)] 31)], F3⟩ by
          clear hK17 hK22
          refine callL_fn0 (valid_fn ⟨f, segsW f t, d⟩ _ F3 hpl9 (by rw [segsW_len]; omega)) rfl (fun _ h => h) fun v G hv => ?_
          subst hv
          simp -implicitDefEqProofs only [push_cast, ↓reduceIte, Nat.reduceEqDiff, Nat.reduceAdd, Nat.reduceMul, Nat.reduceSub, Nat.reduceLeDiff, Nat.reduceLT, reduceCtorEq]
          refine callL_fnE0 (must_fn (validB ⟨f, segsW f t, d⟩) F3) rfl (fun _ h => h) (fun v G hv => ?_) fun v hv => ?_
          · simp -implicitDefEqProofs only [push_cast, ↓reduceIte, Nat.reduceEqDiff, Nat.reduceAdd, Nat.reduceMul, Nat.reduceSub, Nat.reduceLeDiff, Nat.reduceLT, reduceCtorEq]
            exact key22 hv.1
          · simp -implicitDefEqProofs only [push_cast, ↓reduceIte, Nat.reduceEqDiff, Nat.reduceAdd, Nat.reduceMul, Nat.reduceSub, Nat.reduceLeDiff, Nat.reduceLT, reduceCtorEq]
            obtain ⟨hv1, rfl⟩ := hv
            exact parse_pan (by rw [hrg, if_neg (by rw [hv1]; simp)]) rfl rfl rfl rfl rfl
        intro hvd
        refine hK22 _ ?_
        clear hK22
        refine SC.seqN [2, 3, 1000000] [.l 2, .l 3, .l 83, .l 84, .l 900] fun K23 hK23 => SC.region ?_
        simp -implicitDefEqProofs only [push_cast, ↓reduceIte, Nat.reduceEqDiff, Nat.reduceAdd, Nat.reduceMul, Nat.reduceSub, Nat.reduceLeDiff, Nat.reduceLT, reduceCtorEq]
        refine hK23 _ ?_
        clear hK23
        refine SC.ret ?_
        simp -implicitDefEqProofs only [push_cast, ↓reduceIte, Nat.reduceEqDiff, Nat.reduceAdd, Nat.reduceMul, Nat.reduceSub, Nat.reduceLeDiff, Nat.reduceLT, reduceCtorEq, Tryd.f15]
        have hjw : (segsW f t).length = j := by rw [segsW_len, hjn]
        refine parse_ret (p := ⟨f, segsW f t, d⟩) (a := ao) (c := co) (by rw [hrg, if_pos hvd]) rfl rfl rfl ?_ rfl (by rw [hjw]; exact hco) hF4
        rw [hjw]
        rfl
    refine SC.seqN [2, 3, 4, 1000000] [.l 2, .l 3, .l 83, .l 84, .l 900] fun K24 hK24 => SC.region ?_
    simp -implicitDefEqProofs only [push_cast, ↓reduceIte, Nat.reduceEqDiff, Nat.reduceAdd, Nat.reduceMul, Nat.reduceSub, Nat.reduceLeDiff, Nat.reduceLT, reduceCtorEq]
    rw [show slA a (Int.toNat 1) c 1 = a1 from ha1, show t0.length + 1 - Int.toNat 1 = t0.length by show t0.length + 1 - 1 = _; omega]
    refine ⟨by omega, ?_⟩
    refine hK24 _ ?_
    clear hK24
    refine SC.seqN [2, 3, 4, 59, 1000000] [.l 2, .l 3, .l 83, .l 84, .l 900] fun K25 hK25 => SC.region ?_
    simp -implicitDefEqProofs only [push_cast, ↓reduceIte, Nat.reduceEqDiff, Nat.reduceAdd, Nat.reduceMul, Nat.reduceSub, Nat.reduceLeDiff, Nat.reduceLT, reduceCtorEq]
    suffices key25 : K25 ⟨[(2, .own (.l 2) 0), (3, .own (.l 3) 0), (4, .v (.slice a1 t0.length (c - Int.toNat 1))), (59, .v (.bool (isD t0))), (1000000, .clo (.func 32) [.own (.l 2) 0, .own (.l 3) 0])], [(.l 2, .box [.v (.int .i64 f), .v (.slice none 0 0), .v (.bool false)] 27), (.l 3, .box [.v (.int .i64 0)] 31)], F2⟩ by
      clear hK13 hK25
      refine ⟨fun h7 => ?_, fun h7 => ?_⟩
      · obtain ⟨z, hz⟩ : ∃ z, t0[t0.length - 1]? = some z := ⟨_, List.getElem?_eq_getElem (by omega)⟩
        have hz2 : t0.getLast? = some z := by rw [List.getLast?_eq_getElem?, hz]
        refine ⟨by omega, by omega, rowF_some hF0 (strs_ne (by omega)), loadStr (t0.length - 1) hF0 hz (by omega) ?_⟩
        simp -implicitDefEqProofs only [push_cast, ↓reduceIte, Nat.reduceEqDiff, Nat.reduceAdd, Nat.reduceMul, Nat.reduceSub, Nat.reduceLeDiff, Nat.reduceLT, reduceCtorEq]
        have hD : isD t0 = decide (tx z = ⟨#[100, 111, 110, 101]⟩) := by
          unfold isD
          rw [hz2, Bool.eq_iff_iff, decide_eq_true_iff, decide_eq_true_iff, show (⟨#[100, 111, 110, 101]⟩ : ByteArray) = tx doneT from rfl, tx_inj, Option.some.injEq]
        rw [hD] at key25
        exact key25
      · have h0 : t0 = [] := List.length_eq_zero_iff.1 (by omega)
        subst h0
        exact key25
    refine hK25 _ ?_
    clear hK25
    refine SC.cond ?_
    simp -implicitDefEqProofs only [push_cast, ↓reduceIte, Nat.reduceEqDiff, Nat.reduceAdd, Nat.reduceMul, Nat.reduceSub, Nat.reduceLeDiff, Nat.reduceLT, reduceCtorEq]
    refine ⟨fun h3 => ?_, fun h3 => ?_⟩
    · skip
      refine SC.noPan ?_
      refine SC.drawnP (.take 0 (.take 1 (.take 2 (.take 3 (.take 4 (.take 5 (.fork 6 (.take 7 (.done)) (.stop)))))))) (by kernel_rfl) (by kernel_rfl) (fun _ _ h => h) ?_
      simp -implicitDefEqProofs only [push_cast, ↓reduceIte, Nat.reduceEqDiff, Nat.reduceAdd, Nat.reduceMul, Nat.reduceSub, Nat.reduceLeDiff, Nat.reduceLT, reduceCtorEq, noPan_nrm, noPan_pan]
      have hne : t0 ≠ [] := by rintro rfl; cases h3
      have hlen : t0.dropLast.length + 1 = t0.length := by
        have := List.length_pos_iff.2 hne
        rw [List.length_dropLast]; omega
      rw [slA_zero, show ((t0.length : Int) - 1).toNat = t0.dropLast.length by omega]
      refine ⟨by omega, ⟨by omega, by show (t0.length : Int) - 1 ≤ ((c - 1 : Nat) : Int); omega⟩, ?_⟩
      exact key13 true t0.dropLast (c - Int.toNat 1) (by show _ ≤ c - 1; omega) (by
        have := rowF_take hF0 (t0.length - 1)
        rwa [strs_take, ← List.dropLast_eq_take] at this) (by omega) (fun x hx => Nat.le_trans (hpl x (by simp [List.dropLast_subset _ hx])) hl) (by rw [hpg, if_pos h3, h3])
    · skip
      refine SC.skip ?_
      simp -implicitDefEqProofs only [push_cast, ↓reduceIte, Nat.reduceEqDiff, Nat.reduceAdd, Nat.reduceMul, Nat.reduceSub, Nat.reduceLeDiff, Nat.reduceLT, reduceCtorEq]
      exact key13 false t0 (c - Int.toNat 1) (by show _ ≤ c - 1; omega) hF0 (by omega) (fun x hx => Nat.le_trans (hpl x (by simp [hx])) hl) (by rw [hpg, if_neg (by simp [h3]), h3])
end Go.Proofs.YtmamodnpghlgcaaDoor
/- The plain laws: what the program answers is what the specification answers. -/
set_option linter.unusedSimpArgs false
set_option linter.unusedVariables false
namespace Go.Proofs.YtmamodnpghlgcaaDoor
open Go.RowKit
/-- The numbers of segments follow from f on. -/
def numsF (f : Int) (l : List Seg) : Prop := ∀ i (h : i < l.length), l[i].num = f + i
theorem stream_okB {l : List Seg} (h : streamB l = true) {i : Nat} (hi : i < l.length) : okB l i = true := by
  simp only [streamB, Bool.and_eq_true, List.all_eq_true, List.mem_range] at h
  exact h.1 i hi
theorem valid_nums {p : Pl} (h : validB p = true) : numsF p.first p.l := by
  simp only [validB, Bool.and_eq_true, decide_eq_true_eq] at h
  obtain ⟨⟨_, hh⟩, hs⟩ := h
  intro i
  induction i with
  | zero =>
    intro hi
    rw [headB_pos hi, decide_eq_true_eq] at hh
    omega
  | succ i ih =>
    intro hi
    have h1 := stream_okB hs hi
    rw [okB_pos (by omega) hi] at h1
    simp only [Bool.and_eq_true, decide_eq_true_eq, Nat.add_sub_cancel] at h1
    have h2 := ih (by omega)
    have h3 := h1.1.2
    omega
theorem cut_eq {p : Pl} (h : numsF p.first p.l) {w : Int} (hw : 1 ≤ w) : p.cut w = refCut p w := by
  unfold Pl.cut refCut
  split
  · rename_i hlt
    have hi : ((p.l.length : Int) - w).toNat < p.l.length := by omega
    rw [List.getElem?_eq_getElem hi]
    simp only [h _ hi]
  · have : ((p.l.length : Int) - w).toNat = 0 := by omega
    simp [this]
theorem befL_take {n : Int} : ∀ {l : List Seg} {f : Int}, numsF f l → befL l n = l.take (n - f).toNat
  | [], f, _ => by simp [befL]
  | s :: l, f, h => by
    have h0 : s.num = f := by have := h 0 (by simp); simpa using this
    have ht : numsF (f + 1) l := fun i hi => by
      have := h (i + 1) (by simp; omega)
      simp only [List.getElem_cons_succ] at this
      rw [this]; omega
    have ih := befL_take (n := n) ht
    unfold befL at ih ⊢
    rw [List.filter_cons, ih]
    by_cases hn : s.num < n
    · rw [if_pos (by simpa using hn), show (n - f).toNat = (n - (f + 1)).toNat + 1 by omega, List.take_succ_cons]
    · rw [if_neg (by simpa using hn), show (n - f).toNat = 0 by omega, show (n - (f + 1)).toNat = 0 by omega]
      simp
theorem mOut_eq {e p : Pl} (he : numsF e.first e.l) (hp : numsF p.first p.l) (d : Bool) : mOut e p d = refOut e p d ∧ numsF (mOut e p d).first (mOut e p d).l := by
  by_cases hj : mJoin e p = true
  · have hj2 := hj
    simp only [mJoin, Bool.and_eq_true, decide_eq_true_eq] at hj
    obtain ⟨h1, h2, h30⟩ := hj
    have h3 : p.first ≤ e.first + (e.l.length : Int) := h30
    have hb : (mBefore e p).toNat = (p.first - e.first).toNat := by unfold mBefore; omega
    have hn : numsF (p.first - mBefore e p) (e.l.take (mBefore e p).toNat ++ p.l) := by
      intro i hi
      have hl : (e.l.take (mBefore e p).toNat).length = (mBefore e p).toNat := by rw [List.length_take, Nat.min_eq_left (by rw [hb]; omega)]
      by_cases hlt : i < (mBefore e p).toNat
      · rw [List.getElem_append_left (by omega), List.getElem_take, he]
        unfold mBefore at hlt ⊢
        omega
      · rw [List.getElem_append_right (by omega), hp, hl]
        have : 0 ≤ mBefore e p := by unfold mBefore; omega
        omega
    have hm : mOut e p d = ⟨p.first - mBefore e p, e.l.take (mBefore e p).toNat ++ p.l, d⟩ := by unfold mOut; rw [if_pos hj2]
    refine ⟨?_, by rw [hm]; exact hn⟩
    rw [hm]
    unfold refOut accL
    rw [if_pos hj2, befL_take he, ← hb]
    have h0 : 0 < (e.l.take (mBefore e p).toNat ++ p.l).length := by rw [List.length_append]; omega
    rw [List.getElem?_eq_getElem h0]
    simp only [hn 0 h0]
    simp
  · have hm : mOut e p d = ⟨p.first, p.l, d⟩ := by unfold mOut; rw [if_neg hj]
    refine ⟨?_, by rw [hm]; exact hp⟩
    rw [hm]
    unfold refOut accL
    rw [if_neg hj, List.nil_append]
    by_cases h0 : 0 < p.l.length
    · rw [List.getElem?_eq_getElem h0]
      simp only [hp 0 h0]
      simp
    · have : p.l = [] := List.eq_nil_of_length_eq_zero (by omega)
      rw [this]
      simp
theorem merge_law {A B : Pl} (hA : validB A = true) (hB : validB B = true) (w : Int) : mergeP A B w = refMergeP A B w := by
  unfold mergeP refMergeP
  by_cases hw : w < 1 ∨ 100 < w
  · rw [if_pos hw, if_pos hw]
  · rw [if_neg hw, if_neg hw]
    have hE : numsF (mE A B).first (mE A B).l := by unfold mE; split <;> exact valid_nums ‹_›
    have hL : numsF (mL A B).first (mL A B).l := by unfold mL; split <;> exact valid_nums ‹_›
    obtain ⟨h1, h2⟩ := mOut_eq hE hL (A.done || B.done)
    rw [cut_eq h2 (by omega), h1]
theorem push_law {p : Pl} (h : validB p = true) (s : Seg) (w : Int) : pushP p s w = refPushP p s w := by
  unfold pushP refPushP
  by_cases hw : w < 1 ∨ 100 < w
  · rw [if_pos hw, if_pos hw]
  · rw [if_neg hw, if_neg hw]
    split
    · rfl
    · split
      · rfl
      · rename_i hc
        have hn := valid_nums h
        have hs : s.num = p.next := by
          simp only [pushC, Bool.or_eq_true, decide_eq_true_eq, not_or] at hc
          omega
        rw [cut_eq (p := pushO p s) ?_ (by omega)]
        intro i hi
        simp only [pushO, List.length_append, List.length_singleton] at hi
        simp only [pushO]
        by_cases hlt : i < p.l.length
        · rw [List.getElem_append_left hlt, hn i hlt]
        · have : i = p.l.length := by omega
          subst this
          rw [List.getElem_append_right (Nat.le_refl _)]
          simp [hs, Pl.next]
theorem stream_nums {l : List Seg} (h : streamB l = true) : numsF (seenF l) l := by
  intro i
  induction i with
  | zero => intro hi; simp [seenF, List.getElem?_eq_getElem hi]
  | succ i ih =>
    intro hi
    have h1 := stream_okB h hi
    rw [okB_pos (by omega) hi] at h1
    simp only [Bool.and_eq_true, decide_eq_true_eq, Nat.add_sub_cancel] at h1
    have h2 := ih (by omega)
    have h3 := h1.1.2
    omega
theorem seen_law {l : List Seg} (h : streamB l = true) (arr : List Int) (t : Int) {w : Int} (hw : 1 ≤ w) : (seenO l arr t).cut w = refCut (seenO l arr t) w := by
  refine cut_eq ?_ hw
  intro i hi
  simp only [seenO, List.length_take] at hi ⊢
  rw [List.getElem_take]
  exact stream_nums h i (by omega)
theorem segEqB_refl (s : Seg) : segEqB s s = true := (segEqB_iff s s).2 rfl
theorem sameB_refl (p : Pl) : sameB p p = true := by
  simp only [sameB, sameC, Bool.and_eq_true, decide_eq_true_eq, beq_self_eq_true, List.all_eq_true, List.mem_range, true_and, and_true]
  refine fun i hi => ?_
  simp only [eqAt, List.getElem?_eq_getElem hi, segEqB_refl]
theorem cut_len (p : Pl) (w : Int) : (p.cut w).l.length ≤ p.l.length := by
  unfold Pl.cut
  simp only [List.length_drop]
  omega
theorem mOut_len (e p : Pl) (d : Bool) : (mOut e p d).l.length ≤ e.l.length + p.l.length := by
  unfold mOut
  split
  · simp only [List.length_append, List.length_take]
    exact Nat.add_le_add_right (Nat.min_le_right _ _) _
  · exact Nat.le_add_left _ _
theorem merge_len {A B : Pl} {w : Int} (hA : A.l.length ≤ 1000) (hB : B.l.length ≤ 1000) : (mergeP A B w).1.l.length ≤ 2000 := by
  unfold mergeP
  split
  · exact Nat.zero_le _
  · split
    · exact Nat.zero_le _
    · have h1 := cut_len (mOut (mE A B) (mL A B) (A.done || B.done)) w
      have h2 := mOut_len (mE A B) (mL A B) (A.done || B.done)
      have h3 : (mE A B).l.length ≤ 1000 := by unfold mE; split <;> assumption
      have h4 : (mL A B).l.length ≤ 1000 := by unfold mL; split <;> assumption
      show ((mOut (mE A B) (mL A B) (A.done || B.done)).cut w).l.length ≤ 2000
      omega
theorem parseR_cases (l : List UInt8) : (parseR l).1 = pl0 ∧ (parseR l).2 ≠ 0 ∨ validB (parseR l).1 = true ∧ (parseR l).2 = 0 := by
  have hr : ∀ f q d, (readP f q d).1 = pl0 ∧ (readP f q d).2 ≠ 0 ∨ validB (readP f q d).1 = true ∧ (readP f q d).2 = 0 := by
    intro f q d
    unfold readP
    split
    · rename_i h; exact .inr ⟨h, rfl⟩
    · exact .inl ⟨rfl, (by decide : (3 : Int) ≠ 0)⟩
  unfold parseR
  split
  · exact .inl ⟨rfl, (by decide : (2 : Int) ≠ 0)⟩
  · split
    · exact .inl ⟨rfl, (by decide : (3 : Int) ≠ 0)⟩
    · unfold readQ
      split
      · exact .inl ⟨rfl, (by decide : (3 : Int) ≠ 0)⟩
      · split
        · exact .inl ⟨rfl, (by decide : (3 : Int) ≠ 0)⟩
        · exact hr _ _ _
theorem parseR_len (l : List UInt8) : (parseR l).1.l.length ≤ 100 := by
  rcases parseR_cases l with ⟨h, _⟩ | ⟨h, _⟩
  · rw [h]; exact Nat.zero_le _
  · exact (valid_bd h).2.2
end Go.Proofs.YtmamodnpghlgcaaDoor
/- sanity: the examples of the chapter. -/

set_option linter.unusedSimpArgs false
set_option linter.unusedVariables false
set_option maxRecDepth 100000
set_option maxHeartbeats 4000000
namespace Go.Proofs.YtmamodnpghlgcaaDoor
open Go.RowKit
def L4 : List Seg := segsM 4
def pushN : Nat → Pl
  | 0 => ⟨4, [], false⟩
  | n + 1 => (pushP (pushN n) (segM n) 3).1
def pl4 : Pl := pushN 4
def late : Pl := partM L4 1 4 false
def p02 : Pl := partM L4 0 2 false
def p34 : Pl := partM L4 3 4 false
def p04 : Pl := partM L4 0 4 false
def p01 : Pl := partM L4 0 1 false
def mA : Pl := (mergeP p02 late 3).1
def mB : Pl := (mergeP p02 late 4).1
def mC : Pl := (mergeP p02 p34 3).1
def tX : List UInt8 := textB late
def pU : Pl := (parseR tX).1
def sX : Pl := (seenO (L4.take 2) [116, 126] 125).cut 3
theorem valid_ok {p : Pl} (h : validB p = true) : p.Ok := by
  have := valid_bd h
  exact ⟨by omega, by omega, by omega⟩
theorem valid_len {p : Pl} (h : validB p = true) : p.l.length ≤ 1000 := by
  have := valid_bd h
  omega
theorem right_ok {s : Seg} (h : rightB s = true) : s.Ok := by
  have := right_bd h
  unfold Seg.Ok
  omega
theorem valid_segs {p : Pl} (h : validB p = true) : ∀ s ∈ p.l, s.Ok := fun s hs => right_ok (valid_seg h s hs)
theorem vPush (i : Nat) (hi : i ≤ 4) : validB (pushN i) = true := by
  have : ∀ i : Fin 5, validB (pushN i.val) = true := by decide +kernel
  exact this ⟨i, by omega⟩
theorem ePush (i : Nat) (hi : i < 4) : (pushP (pushN i) (segM i) 3).2 = 0 := by
  have : ∀ i : Fin 4, (pushP (pushN i.val) (segM i.val) 3).2 = 0 := by decide +kernel
  exact this ⟨i, hi⟩
theorem gL4 (i : Nat) (hi : i < 4) : L4[i]? = some (segM i) := by simp [L4, segsM, hi]
theorem sL4 : ∀ s ∈ L4, s.Ok := stream_ok (l := L4) (by kernel_rfl)
theorem v_late : validB late = true := by kernel_rfl
theorem v_p02 : validB p02 = true := by kernel_rfl
theorem v_p34 : validB p34 = true := by kernel_rfl
theorem e1 : sameB pl4 late = true := by kernel_rfl
theorem e2 : pl4.next = 8 := by kernel_rfl
theorem e3 : pl4.edge = 140 := by kernel_rfl
theorem e4 : validB pl4 = true := by kernel_rfl
theorem e5 : (mergeP p02 late 3).2 = 0 := by kernel_rfl
theorem e6 : (mergeP p02 late 4).2 = 0 := by kernel_rfl
theorem e7 : (mergeP p02 p34 3).2 = 0 := by kernel_rfl
theorem e8 : sameB mA late = true := by kernel_rfl
theorem e9 : sameB mB p04 = true := by kernel_rfl
theorem e10 : sameB mC p34 = true := by kernel_rfl
theorem e11 : spreadE (L4.take 2) [0, 0, 1] [[], [3, 3], [3, 3]] = 0 := by kernel_rfl
theorem e12 : timesEq (spreadR (L4.take 2) [0, 0, 1] [[], [3, 3], [3, 3]]) [[110, 120], [113, 123], [116, 126]] = true := by kernel_rfl
theorem e13 : textE late = 0 := by kernel_rfl
theorem e14 : (parseR tX).2 = 0 := by kernel_rfl
theorem e15 : sameB pU late = true := by kernel_rfl
theorem e16 : sameB sX p01 = true := by kernel_rfl
theorem e17 : ∀ s ∈ late.l, s.BOk := by
  intro s hs
  have : s = segM 1 ∨ s = segM 2 ∨ s = segM 3 := by
    have h : late.l = [segM 1, segM 2, segM 3] := rfl
    rw [h] at hs
    simpa using hs
  rcases this with rfl | rfl | rfl <;> (intro i hi; unfold segM; simp only; split <;> decide)
theorem rowF_cells {F : Fact} {b : Nat} {cs : List Value} (h : F.to (cellsF b 0 cs)) : F.to (rowF (some ⟨b, 0, none⟩) cs) := fun s hs => .inr ⟨_, rfl, rfl, fun j v hv => h s hs j v hv⟩
theorem isInts_cells {F : Fact} {b n : Nat} {l : List Int} (hn : n = l.length) (h : F.to (cellsF b 0 (ints l))) : isInts l F (.slice (some ⟨b, 0, none⟩) n n) := ⟨_, _, by rw [hn], Nat.le_of_eq hn.symm, rowF_cells h⟩
def aa3 (x y z : Option Addr) (i : Nat) : Option Addr := if i = 0 then x else if i = 1 then y else z
def cc3 (x y z : Nat) (i : Nat) : Nat := if i = 0 then x else if i = 1 then y else z
theorem isIntss_three {F : Fact} {b : Nat} {x y z : List Int} {ax ay az : Option Addr} {cx cy cz : Nat} (h : F.to (cellsF b 0 [.slice ax x.length cx, .slice ay y.length cy, .slice az z.length cz])) (hx : x.length ≤ cx ∧ F.to (rowF ax (ints x))) (hy : y.length ≤ cy ∧ F.to (rowF ay (ints y))) (hz : z.length ≤ cz ∧ F.to (rowF az (ints z))) : isIntss [x, y, z] F (.slice (some ⟨b, 0, none⟩) 3 3) := by
  refine ⟨some ⟨b, 0, none⟩, 3, aa3 ax ay az, cc3 cx cy cz, rfl, Nat.le_refl _, rowF_cells h, ?_⟩
  intro i l hl
  match i with
  | 0 => simp at hl; subst hl; exact hx
  | 1 => simp at hl; subst hl; exact hy
  | 2 => simp at hl; subst hl; exact hz
  | i + 3 => simp at hl
def tR : List (List Int) := spreadR (L4.take 2) [0, 0, 1] [[], [3, 3], [3, 3]]
theorem sanity_fn (F : Fact) (hF : F.to libF) : Fn Tryd.prog 8 [] F fun v _ => v = .bool true := by
  refine Fn.of_body Tryd.func8 rfl (Nat.le_of_ble_eq_true rfl) (Nat.le_of_ble_eq_true rfl) (by kernel_rfl) ?_
  refine SC.of_le ?_ (Le.mark _)
  simp -implicitDefEqProofs only [push_cast, ↓reduceIte, Nat.reduceEqDiff, Nat.reduceAdd, Nat.reduceMul, Nat.reduceSub, Nat.reduceLeDiff, Nat.reduceLT, reduceCtorEq]
  refine SC.seqN [2000000] [.l 112, .l 113, .l 114, .l 115, .l 123, .l 124, .l 125, .l 126, .l 170] fun K1 hK1 => SC.region ?_
  simp -implicitDefEqProofs only [push_cast, ↓reduceIte, Nat.reduceEqDiff, Nat.reduceAdd, Nat.reduceMul, Nat.reduceSub, Nat.reduceLeDiff, Nat.reduceLT, reduceCtorEq]
  refine hK1 _ ?_
  clear hK1
  refine SC.seqN [1, 2000000] [.l 112, .l 113, .l 114, .l 115, .l 123, .l 124, .l 125, .l 126, .l 170] fun K2 hK2 => SC.region ?_
  simp -implicitDefEqProofs only [push_cast, ↓reduceIte, Nat.reduceEqDiff, Nat.reduceAdd, Nat.reduceMul, Nat.reduceSub, Nat.reduceLeDiff, Nat.reduceLT, reduceCtorEq]
  refine callL_fn (segments_fn 4 (by decide) F) rfl (fun _ h => h) ?_
  rintro v G ⟨a, c, rfl, hc, hG⟩
  simp -implicitDefEqProofs only [push_cast, ↓reduceIte, Nat.reduceEqDiff, Nat.reduceAdd, Nat.reduceMul, Nat.reduceSub, Nat.reduceLeDiff, Nat.reduceLT, reduceCtorEq]
  have hl1 : (F.and G).to libF := Fact.to_left hF
  have hL : (F.and G).to (rowF a (segsC L4)) := Fact.to_right hG
  generalize F.and G = F1 at *
  refine hK2 _ ?_
  clear hK2
  refine SC.seqN [1, 2, 2000000] [.l 2, .l 112, .l 113, .l 114, .l 115, .l 123, .l 124, .l 125, .l 126, .l 170] fun K3 hK3 => SC.region ?_
  simp -implicitDefEqProofs only [push_cast, ↓reduceIte, Nat.reduceEqDiff, Nat.reduceAdd, Nat.reduceMul, Nat.reduceSub, Nat.reduceLeDiff, Nat.reduceLT, reduceCtorEq]
  refine hK3 _ ?_
  clear hK3
  refine SC.seqN [1, 2, 2000000] [.l 2, .l 112, .l 113, .l 114, .l 115, .l 123, .l 124, .l 125, .l 126, .l 170] fun K4 hK4 => ?_
  refine SC.seqN [1, 2, 25, 26, 27, 2000000] [.l 2, .l 112, .l 113, .l 114, .l 115, .l 123, .l 124, .l 125, .l 126, .l 170] fun K5 hK5 => SC.region ?_
  simp -implicitDefEqProofs only [push_cast, ↓reduceIte, Nat.reduceEqDiff, Nat.reduceAdd, Nat.reduceMul, Nat.reduceSub, Nat.reduceLeDiff, Nat.reduceLT, reduceCtorEq]
  refine hK5 _ ?_
  clear hK5
  refine SC.block ?_
  refine SC.loop (fun x : Nat × Option Addr × Nat × Fact => ⟨[(1, .v (.slice a 4 c)), (2, .own (.l 2) 0), (25, .v (.slice a 4 c)), (26, .v (.int .i64 4)), (27, .v (.int .i64 x.1)), (2000000, .any)], [(.l 2, .box [.v (.int .i64 (pushN x.1).first), .v (.slice x.2.1 (pushN x.1).l.length x.2.2.1), .v (.bool (pushN x.1).done)] 27)], x.2.2.2⟩) (fun x => x.1 ≤ 4 ∧ x.2.2.2.to F1 ∧ isPl (pushN x.1) x.2.2.2 (plV (pushN x.1).first x.2.1 (pushN x.1).l.length x.2.2.1 (pushN x.1).done)) (fun x => 4 - x.1) (0, none, 0, F1) (Le.refl _) ⟨Nat.zero_le _, Fact.to_refl _, none, 0, rfl, Nat.le_refl _, rowF_nil _ _⟩ fun x hx => ?_
  obtain ⟨i, a2, c2, F2⟩ := x
  simp only at hx ⊢
  obtain ⟨hi, hF2, hp2⟩ := hx
  have hL2 := Fact.to_trans hF2 hL
  refine SC.seqN [1, 2, 25, 26, 27, 28, 2000000] [.l 2, .l 112, .l 113, .l 114, .l 115, .l 123, .l 124, .l 125, .l 126, .l 170] fun K6 hK6 => SC.region ?_
  simp -implicitDefEqProofs only [push_cast, ↓reduceIte, Nat.reduceEqDiff, Nat.reduceAdd, Nat.reduceMul, Nat.reduceSub, Nat.reduceLeDiff, Nat.reduceLT, reduceCtorEq]
  refine hK6 _ ?_
  clear hK6
  refine SC.seqN [1, 2, 25, 26, 27, 2000000] [.l 2, .l 112, .l 113, .l 114, .l 115, .l 123, .l 124, .l 125, .l 126, .l 170] fun K7 hK7 => ?_
  refine SC.cond ?_
  simp -implicitDefEqProofs only [push_cast, ↓reduceIte, Nat.reduceEqDiff, Nat.reduceAdd, Nat.reduceMul, Nat.reduceSub, Nat.reduceLeDiff, Nat.reduceLT, reduceCtorEq]
  refine ⟨fun h1 => ?_, fun h1 => ?_⟩
  · skip
    have hi4 : i < 4 := by omega
    have hgi := gL4 i hi4
    have hvi := vPush i hi
    refine SC.skip ?_
    simp -implicitDefEqProofs only [push_cast, ↓reduceIte, Nat.reduceEqDiff, Nat.reduceAdd, Nat.reduceMul, Nat.reduceSub, Nat.reduceLeDiff, Nat.reduceLT, reduceCtorEq]
    refine hK7 _ ?_
    clear hK7
    refine SC.seqN [1, 2, 25, 26, 27, 2000000] [.l 2, .l 112, .l 113, .l 114, .l 115, .l 123, .l 124, .l 125, .l 126, .l 170] fun K8 hK8 => ?_
    refine SC.block ?_
    refine SC.seqN [1, 2, 4, 25, 26, 27, 2000000] [.l 2, .l 4, .l 112, .l 113, .l 114, .l 115, .l 123, .l 124, .l 125, .l 126, .l 170] fun K9 hK9 => SC.region ?_
    simp -implicitDefEqProofs only [push_cast, ↓reduceIte, Nat.reduceEqDiff, Nat.reduceAdd, Nat.reduceMul, Nat.reduceSub, Nat.reduceLeDiff, Nat.reduceLT, reduceCtorEq]
    refine ⟨by omega, rowF_some hL2 (segsC_ne (by decide)), loadSeg i hL2 hgi rfl rfl ?_⟩
    simp -implicitDefEqProofs only [push_cast, ↓reduceIte, Nat.reduceEqDiff, Nat.reduceAdd, Nat.reduceMul, Nat.reduceSub, Nat.reduceLeDiff, Nat.reduceLT, reduceCtorEq, segV, segC]
    refine hK9 _ ?_
    clear hK9
    refine SC.seqN [1, 2, 5, 6, 25, 26, 27, 2000000] [.l 2, .l 5, .l 112, .l 113, .l 114, .l 115, .l 123, .l 124, .l 125, .l 126, .l 170] fun K10 hK10 => SC.region ?_
    simp -implicitDefEqProofs only [push_cast, ↓reduceIte, Nat.reduceEqDiff, Nat.reduceAdd, Nat.reduceMul, Nat.reduceSub, Nat.reduceLeDiff, Nat.reduceLT, reduceCtorEq]
    suffices key10 : ∀ (a3 : Option Addr) (c3 : Nat) (F3 : Fact), F3.to F1 → isPl (pushN (i + 1)) F3 (plV (pushN (i + 1)).first a3 (pushN (i + 1)).l.length c3 (pushN (i + 1)).done) → K10 ⟨[(1, .v (.slice a 4 c)), (2, .own (.l 2) 0), (5, .own (.l 5) 0), (6, .v (.int .i64 0)), (25, .v (.slice a 4 c)), (26, .v (.int .i64 4)), (27, .v (.int .i64 i)), (2000000, .any)], [(.l 2, .box [.v (.int .i64 (pushN i).first), .v (.slice a2 (pushN i).l.length c2), .v (.bool (pushN i).done)] 27), (.l 5, .box [.v (.int .i64 (pushN i.succ).first), .v (.slice a3 (pushN i.succ).l.length c3), .v (.bool (pushN i.succ).done)] 27)], F3⟩ by
      clear hK4 hK8 hK10
      refine callL_fn (push_fn (pushN i) _ (segM i) 3 F2 hp2 (valid_ok hvi) (valid_len hvi) (valid_segs hvi)) rfl (fun _ h => h) ?_
      rintro v G ⟨pv, rfl, a3, c3, rfl, hc3, hG⟩
      rw [ePush i hi4]
      simp -implicitDefEqProofs only [push_cast, ↓reduceIte, Nat.reduceEqDiff, Nat.reduceAdd, Nat.reduceMul, Nat.reduceSub, Nat.reduceLeDiff, Nat.reduceLT, reduceCtorEq, plV]
      exact key10 a3 c3 _ (Fact.to_left hF2) ⟨a3, c3, rfl, hc3, Fact.to_right hG⟩
    intro a3 c3 F3 hF3 hp3
    refine hK10 _ ?_
    clear hK10
    refine SC.seqN [1, 2, 5, 25, 26, 27, 2000000] [.l 2, .l 5, .l 112, .l 113, .l 114, .l 115, .l 123, .l 124, .l 125, .l 126, .l 170] fun K11 hK11 => ?_
    refine SC.seqN [1, 2, 5, 25, 26, 27, 38, 2000000] [.l 2, .l 5, .l 112, .l 113, .l 114, .l 115, .l 123, .l 124, .l 125, .l 126, .l 170] fun K12 hK12 => SC.region ?_
    simp -implicitDefEqProofs only [push_cast, ↓reduceIte, Nat.reduceEqDiff, Nat.reduceAdd, Nat.reduceMul, Nat.reduceSub, Nat.reduceLeDiff, Nat.reduceLT, reduceCtorEq]
    refine hK12 _ ?_
    clear hK12
    refine SC.cond ?_
    simp -implicitDefEqProofs only [push_cast, ↓reduceIte, Nat.reduceEqDiff, Nat.reduceAdd, Nat.reduceMul, Nat.reduceSub, Nat.reduceLeDiff, Nat.reduceLT, reduceCtorEq]
    refine ⟨fun h => h.elim, ?_⟩
    refine SC.skip ?_
    simp -implicitDefEqProofs only [push_cast, ↓reduceIte, Nat.reduceEqDiff, Nat.reduceAdd, Nat.reduceMul, Nat.reduceSub, Nat.reduceLeDiff, Nat.reduceLT, reduceCtorEq]
    refine hK11 _ ?_
    clear hK11
    refine SC.region ?_
    simp -implicitDefEqProofs only [push_cast, ↓reduceIte, Nat.reduceEqDiff, Nat.reduceAdd, Nat.reduceMul, Nat.reduceSub, Nat.reduceLeDiff, Nat.reduceLT, reduceCtorEq]
    refine hK8 _ ?_
    clear hK8
    refine SC.region ?_
    simp -implicitDefEqProofs only [push_cast, ↓reduceIte, Nat.reduceEqDiff, Nat.reduceAdd, Nat.reduceMul, Nat.reduceSub, Nat.reduceLeDiff, Nat.reduceLT, reduceCtorEq]
    refine ⟨by omega, ?_⟩
    refine ⟨(i + 1, a3, c3, F3), ⟨hi4, hF3, hp3⟩, by dsimp only; omega, Le.norm _ [1, 2, 25, 26, 27, 2000000] [.l 2]⟩
  · skip
    have h4 : i = 4 := by omega
    subst h4
    have hl2 := Fact.to_trans hF2 hl1
    refine SC.exit ?_
    simp -implicitDefEqProofs only [push_cast, ↓reduceIte, Nat.reduceEqDiff, Nat.reduceAdd, Nat.reduceMul, Nat.reduceSub, Nat.reduceLeDiff, Nat.reduceLT, reduceCtorEq]
    refine hK4 _ ?_
    clear hK4
    refine SC.seqN [1, 2, 7, 2000000] [.l 2, .l 7, .l 112, .l 113, .l 114, .l 115, .l 123, .l 124, .l 125, .l 126, .l 170] fun K13 hK13 => SC.region ?_
    simp -implicitDefEqProofs only [push_cast, ↓reduceIte, Nat.reduceEqDiff, Nat.reduceAdd, Nat.reduceMul, Nat.reduceSub, Nat.reduceLeDiff, Nat.reduceLT, reduceCtorEq]
    suffices key13 : ∀ (a3 : Option Addr) (c3 : Nat) (F3 : Fact), F3.to F2 → isPl late F3 (plV late.first a3 late.l.length c3 late.done) → K13 ⟨[(1, .v (.slice a 4 c)), (2, .own (.l 2) 0), (7, .own (.l 7) 0), (2000000, .any)], [(.l 2, .box [.v (.int .i64 pl4.first), .v (.slice a2 pl4.l.length c2), .v (.bool pl4.done)] 27), (.l 7, .box [.v (.int .i64 late.first), .v (.slice a3 late.l.length c3), .v (.bool late.done)] 27)], F3⟩ by
      clear hK7 hK13
      refine callL_fn (part_fn L4 a c 1 4 false F2 hL2 (by decide) hc (by decide) (by decide) (by decide) sL4) rfl (fun _ h => h) ?_
      rintro v G ⟨a3, c3, rfl, hc3, hG⟩
      simp -implicitDefEqProofs only [push_cast, ↓reduceIte, Nat.reduceEqDiff, Nat.reduceAdd, Nat.reduceMul, Nat.reduceSub, Nat.reduceLeDiff, Nat.reduceLT, reduceCtorEq, plV]
      exact key13 a3 c3 _ (Fact.to_left (Fact.to_refl _)) ⟨a3, c3, rfl, hc3, Fact.to_right hG⟩
    intro a7 c7 F3 hF3 hp7
    have hl3 := Fact.to_trans hF3 hl2
    have hL3 := Fact.to_trans hF3 hL2
    have hp4 : isPl pl4 F3 (plV pl4.first a2 pl4.l.length c2 pl4.done) := isPl.to hp2 hF3
    refine hK13 _ ?_
    clear hK13
    refine SC.seqN [1, 7, 8, 2000000] [.l 7, .l 112, .l 113, .l 114, .l 115, .l 123, .l 124, .l 125, .l 126, .l 170] fun K14 hK14 => SC.region ?_
    simp -implicitDefEqProofs only [push_cast, ↓reduceIte, Nat.reduceEqDiff, Nat.reduceAdd, Nat.reduceMul, Nat.reduceSub, Nat.reduceLeDiff, Nat.reduceLT, reduceCtorEq]
    suffices key14 : K14 ⟨[(1, .v (.slice a 4 c)), (7, .own (.l 7) 0), (8, .v (.bool true)), (2000000, .any)], [(.l 7, .box [.v (.int .i64 late.first), .v (.slice a7 late.l.length c7), .v (.bool late.done)] 27)], F3⟩ by
      clear hK7 hK14
      refine callL_fn0 (same_fn pl4 late _ _ F3 hp4 hp7 (by decide)) rfl (fun _ h => h) fun v G hv => ?_
      subst hv
      rw [e1]
      simp -implicitDefEqProofs only [push_cast, ↓reduceIte, Nat.reduceEqDiff, Nat.reduceAdd, Nat.reduceMul, Nat.reduceSub, Nat.reduceLeDiff, Nat.reduceLT, reduceCtorEq]
      refine callL_fn0 (next_fn pl4 _ F3 hp4 (valid_ok e4)) rfl (fun _ h => h) fun v G hv => ?_
      subst hv
      rw [e2]
      simp -implicitDefEqProofs only [push_cast, ↓reduceIte, Nat.reduceEqDiff, Nat.reduceAdd, Nat.reduceMul, Nat.reduceSub, Nat.reduceLeDiff, Nat.reduceLT, reduceCtorEq, decide_true, decide_false, SV.q_true, SV.q_false]
      refine callL_fn0 (edge_fn pl4 _ F3 hp4 (valid_ok e4) (valid_segs e4)) rfl (fun _ h => h) fun v G hv => ?_
      subst hv
      rw [e3]
      simp -implicitDefEqProofs only [push_cast, ↓reduceIte, Nat.reduceEqDiff, Nat.reduceAdd, Nat.reduceMul, Nat.reduceSub, Nat.reduceLeDiff, Nat.reduceLT, reduceCtorEq, decide_true, decide_false, SV.q_true, SV.q_false]
      refine callL_fn0 (valid_fn pl4 _ F3 hp4 (by decide)) rfl (fun _ h => h) fun v G hv => ?_
      subst hv
      rw [e4]
      simp -implicitDefEqProofs only [push_cast, ↓reduceIte, Nat.reduceEqDiff, Nat.reduceAdd, Nat.reduceMul, Nat.reduceSub, Nat.reduceLeDiff, Nat.reduceLT, reduceCtorEq, decide_true, decide_false, SV.q_true, SV.q_false]
      exact key14
    refine hK14 _ ?_
    clear hK14
    have hLx := hL3
    have hpl := hp7
    refine SC.seqN [1, 7, 8, 9, 10, 2000000] [.l 7, .l 9, .l 112, .l 113, .l 114, .l 115, .l 123, .l 124, .l 125, .l 126, .l 170] fun K15 hK15 => SC.drawnP (.take 0 (.load 2 (.forkE 1 [7] (.fork 3 (.take 4 (.take 5 (.take 6 (.fork 7 (.fork 8 (.take 9 (.done)) (.stop)) (.stop))))) (.forkE 7 [7] (.fork 3 (.take 4 (.take 5 (.take 6 (.fork 8 (.take 9 (.done)) (.stop))))) (.stop)) (.stop))) (.forkE 7 [7] (.forkE 1 [7] (.fork 3 (.take 4 (.take 5 (.take 6 (.fork 8 (.take 9 (.done)) (.stop))))) (.stop)) (.stop)) (.stop))))) (by kernel_rfl) (by kernel_rfl) (fun _ _ h => h) ?_
    simp -implicitDefEqProofs only [push_cast, ↓reduceIte, Nat.reduceEqDiff, Nat.reduceAdd, Nat.reduceMul, Nat.reduceSub, Nat.reduceLeDiff, Nat.reduceLT, reduceCtorEq]
    suffices key15 : ∀ (a3 : Option Addr) (c3 : Nat) (Fz : Fact), Fz.to F3 → isPl mA Fz (plV mA.first a3 mA.l.length c3 mA.done) → K15 ⟨[(1, .v (.slice a 4 c)), (7, .own (.l 7) 0), (8, .v (.bool true)), (9, .own (.l 9) 0), (10, .v (.int .i64 0)), (2000000, .any)], [(.l 7, .box [.v (.int .i64 late.first), .v (.slice a7 late.l.length c7), .v (.bool late.done)] 27), (.l 9, .box [.v (.int .i64 mA.first), .v (.slice a3 mA.l.length c3), .v (.bool mA.done)] 27)], Fz⟩ by
      clear hK7 hK15
      have hpart := part_fn L4 a c 0 2 false _ hLx (by decide) hc (by decide) (by decide) (by decide) sL4
      repeat' (first
        | exact key15 _ _ _ (Fact.to_left (Fact.to_left (Fact.to_refl _))) (by assumption)
        | (with_reducible refine And.intro (by omega) ?_)
        | (with_reducible refine And.intro ?_ ?_)
        | intro h
        | exact rfl
        | (with_reducible refine callL_fn hpart ?_ (fun _ h => h) ?_
           · rfl
           rintro v G ⟨a4, c4, rfl, hc4, hG⟩
           have hpx : isPl p02 (F3.and G) (plV p02.first a4 p02.l.length c4 p02.done) := ⟨a4, c4, rfl, hc4, Fact.to_right hG⟩
           simp -implicitDefEqProofs only [push_cast, ↓reduceIte, Nat.reduceEqDiff, Nat.reduceAdd, Nat.reduceMul, Nat.reduceSub, Nat.reduceLeDiff, Nat.reduceLT, reduceCtorEq])
        | (refine callL_fn (merge_fn p02 late _ _ 3 _ hpx (isPl.to hpl (Fact.to_left (Fact.to_refl _))) (valid_ok v_p02) (valid_ok v_late) (by decide) (by decide) (valid_segs v_p02) (valid_segs v_late)) ?_ (fun _ h => h) ?_
           · rfl
           rintro v G2 ⟨pv, rfl, a3, c3, rfl, hc3, hG2⟩
           have hpy : isPl mA ((F3.and G).and G2) (plV mA.first a3 mA.l.length c3 mA.done) := ⟨a3, c3, rfl, hc3, Fact.to_right hG2⟩
           rw [e5]
           simp -implicitDefEqProofs only [push_cast, ↓reduceIte, Nat.reduceEqDiff, Nat.reduceAdd, Nat.reduceMul, Nat.reduceSub, Nat.reduceLeDiff, Nat.reduceLT, reduceCtorEq, plV]))
    intro a9 c9 F4 hF4 hp9
    clear hLx hpl
    have hLx := Fact.to_trans hF4 hL3
    have hpl := isPl.to hp7 hF4
    have hl4 := Fact.to_trans hF4 hl3
    refine hK15 _ ?_
    clear hK15
    refine SC.seqN [1, 7, 8, 9, 10, 11, 12, 2000000] [.l 7, .l 9, .l 11, .l 112, .l 113, .l 114, .l 115, .l 123, .l 124, .l 125, .l 126, .l 170] fun K16 hK16 => SC.drawnP (.take 0 (.load 2 (.forkE 1 [7] (.fork 3 (.take 4 (.take 5 (.take 6 (.fork 7 (.fork 8 (.take 9 (.done)) (.stop)) (.stop))))) (.forkE 7 [7] (.fork 3 (.take 4 (.take 5 (.take 6 (.fork 8 (.take 9 (.done)) (.stop))))) (.stop)) (.stop))) (.forkE 7 [7] (.forkE 1 [7] (.fork 3 (.take 4 (.take 5 (.take 6 (.fork 8 (.take 9 (.done)) (.stop))))) (.stop)) (.stop)) (.stop))))) (by kernel_rfl) (by kernel_rfl) (fun _ _ h => h) ?_
    simp -implicitDefEqProofs only [push_cast, ↓reduceIte, Nat.reduceEqDiff, Nat.reduceAdd, Nat.reduceMul, Nat.reduceSub, Nat.reduceLeDiff, Nat.reduceLT, reduceCtorEq]
    suffices key16 : ∀ (a3 : Option Addr) (c3 : Nat) (Fz : Fact), Fz.to F4 → isPl mB Fz (plV mB.first a3 mB.l.length c3 mB.done) → K16 ⟨[(1, .v (.slice a 4 c)), (7, .own (.l 7) 0), (8, .v (.bool true)), (9, .own (.l 9) 0), (10, .v (.int .i64 0)), (11, .own (.l 11) 0), (12, .v (.int .i64 0)), (2000000, .any)], [(.l 7, .box [.v (.int .i64 late.first), .v (.slice a7 late.l.length c7), .v (.bool late.done)] 27), (.l 9, .box [.v (.int .i64 mA.first), .v (.slice a9 mA.l.length c9), .v (.bool mA.done)] 27), (.l 11, .box [.v (.int .i64 mB.first), .v (.slice a3 mB.l.length c3), .v (.bool mB.done)] 27)], Fz⟩ by
      clear hK7 hK16
      have hpart := part_fn L4 a c 0 2 false _ hLx (by decide) hc (by decide) (by decide) (by decide) sL4
      repeat' (first
        | exact key16 _ _ _ (Fact.to_left (Fact.to_left (Fact.to_refl _))) (by assumption)
        | (with_reducible refine And.intro (by omega) ?_)
        | (with_reducible refine And.intro ?_ ?_)
        | intro h
        | exact rfl
        | (with_reducible refine callL_fn hpart ?_ (fun _ h => h) ?_
           · rfl
           rintro v G ⟨a4, c4, rfl, hc4, hG⟩
           have hpx : isPl p02 (F4.and G) (plV p02.first a4 p02.l.length c4 p02.done) := ⟨a4, c4, rfl, hc4, Fact.to_right hG⟩
           simp -implicitDefEqProofs only [push_cast, ↓reduceIte, Nat.reduceEqDiff, Nat.reduceAdd, Nat.reduceMul, Nat.reduceSub, Nat.reduceLeDiff, Nat.reduceLT, reduceCtorEq])
        | (refine callL_fn (merge_fn p02 late _ _ 4 _ hpx (isPl.to hpl (Fact.to_left (Fact.to_refl _))) (valid_ok v_p02) (valid_ok v_late) (by decide) (by decide) (valid_segs v_p02) (valid_segs v_late)) ?_ (fun _ h => h) ?_
           · rfl
           rintro v G2 ⟨pv, rfl, a3, c3, rfl, hc3, hG2⟩
           have hpy : isPl mB ((F4.and G).and G2) (plV mB.first a3 mB.l.length c3 mB.done) := ⟨a3, c3, rfl, hc3, Fact.to_right hG2⟩
           rw [e6]
           simp -implicitDefEqProofs only [push_cast, ↓reduceIte, Nat.reduceEqDiff, Nat.reduceAdd, Nat.reduceMul, Nat.reduceSub, Nat.reduceLeDiff, Nat.reduceLT, reduceCtorEq, plV]))
    intro a11 c11 F5 hF5 hp11
    clear hLx hpl
    have hLx := Fact.to_trans hF5 (Fact.to_trans hF4 hL3)
    have hpl := isPl.to hp7 (Fact.to_trans hF5 hF4)
    have hl5 := Fact.to_trans hF5 hl4
    have hp9' := isPl.to hp9 hF5
    refine hK16 _ ?_
    clear hK16
    refine SC.seqN [1, 7, 8, 9, 10, 11, 12, 13, 14, 2000000] [.l 7, .l 9, .l 11, .l 13, .l 112, .l 113, .l 114, .l 115, .l 123, .l 124, .l 125, .l 126, .l 170] fun K17 hK17 => SC.region ?_
    simp -implicitDefEqProofs only [push_cast, ↓reduceIte, Nat.reduceEqDiff, Nat.reduceAdd, Nat.reduceMul, Nat.reduceSub, Nat.reduceLeDiff, Nat.reduceLT, reduceCtorEq]
    suffices key17 : ∀ (a3 : Option Addr) (c3 : Nat) (Fz : Fact), Fz.to F5 → isPl mC Fz (plV mC.first a3 mC.l.length c3 mC.done) → K17 ⟨[(1, .v (.slice a 4 c)), (7, .own (.l 7) 0), (8, .v (.bool true)), (9, .own (.l 9) 0), (10, .v (.int .i64 0)), (11, .own (.l 11) 0), (12, .v (.int .i64 0)), (13, .own (.l 13) 0), (14, .v (.int .i64 0)), (2000000, .any)], [(.l 7, .box [.v (.int .i64 late.first), .v (.slice a7 late.l.length c7), .v (.bool late.done)] 27), (.l 9, .box [.v (.int .i64 mA.first), .v (.slice a9 mA.l.length c9), .v (.bool mA.done)] 27), (.l 11, .box [.v (.int .i64 mB.first), .v (.slice a11 mB.l.length c11), .v (.bool mB.done)] 27), (.l 13, .box [.v (.int .i64 mC.first), .v (.slice a3 mC.l.length c3), .v (.bool mC.done)] 27)], Fz⟩ by
      clear hK7 hK17
      refine callL_fn (part_fn L4 a c 0 2 false _ hLx (by decide) hc (by decide) (by decide) (by decide) sL4) rfl (fun _ h => h) ?_
      rintro v G ⟨a4, c4, rfl, hc4, hG⟩
      have hpx : isPl p02 (F5.and G) (plV p02.first a4 p02.l.length c4 p02.done) := ⟨a4, c4, rfl, hc4, Fact.to_right hG⟩
      have hLy := Fact.to_trans (Fact.to_left (Fact.to_refl F5) : (F5.and G).to F5) hLx
      simp -implicitDefEqProofs only [push_cast, ↓reduceIte, Nat.reduceEqDiff, Nat.reduceAdd, Nat.reduceMul, Nat.reduceSub, Nat.reduceLeDiff, Nat.reduceLT, reduceCtorEq]
      refine callL_fn (part_fn L4 a c 3 4 false _ hLy (by decide) hc (by decide) (by decide) (by decide) sL4) rfl (fun _ h => h) ?_
      rintro v G2 ⟨a5, c5, rfl, hc5, hG2⟩
      have hpy : isPl p34 ((F5.and G).and G2) (plV p34.first a5 p34.l.length c5 p34.done) := ⟨a5, c5, rfl, hc5, Fact.to_right hG2⟩
      simp -implicitDefEqProofs only [push_cast, ↓reduceIte, Nat.reduceEqDiff, Nat.reduceAdd, Nat.reduceMul, Nat.reduceSub, Nat.reduceLeDiff, Nat.reduceLT, reduceCtorEq]
      refine callL_fn (merge_fn p02 p34 _ _ 3 _ (isPl.to hpx (Fact.to_left (Fact.to_refl _))) hpy (valid_ok v_p02) (valid_ok v_p34) (by decide) (by decide) (valid_segs v_p02) (valid_segs v_p34)) rfl (fun _ h => h) ?_
      rintro v G3 ⟨pv, rfl, a3, c3, rfl, hc3, hG3⟩
      rw [e7]
      simp -implicitDefEqProofs only [push_cast, ↓reduceIte, Nat.reduceEqDiff, Nat.reduceAdd, Nat.reduceMul, Nat.reduceSub, Nat.reduceLeDiff, Nat.reduceLT, reduceCtorEq, plV]
      exact key17 a3 c3 _ (Fact.to_left (Fact.to_left (Fact.to_left (Fact.to_refl _)))) ⟨a3, c3, rfl, hc3, Fact.to_right hG3⟩
    intro a13 c13 F6 hF6 hp13
    have hL6 := Fact.to_trans hF6 hLx
    have hpl6 := isPl.to hpl hF6
    have hl6 := Fact.to_trans hF6 hl5
    have hpA := isPl.to hp9' hF6
    have hpB := isPl.to hp11 hF6
    clear hp9' hp11
    refine hK17 _ ?_
    clear hK17
    refine SC.seqN [1, 7, 8, 15, 2000000] [.l 7, .l 112, .l 113, .l 114, .l 115, .l 123, .l 124, .l 125, .l 126, .l 170] fun K18 hK18 => SC.drawnP (.take 0 (.take 1 (.take 2 (.take 3 (.take 4 (.take 5 (.take 6 (.take 7 (.take 8 (.take 9 (.take 10 (.load 11 (.load 12 (.fork 13 (.take 14 (.take 15 (.take 17 (.load 16 (.forkE 18 [11] (.fork 19 (.take 20 (.take 21 (.take 23 (.load 22 (.forkE 24 [13] (.fork 25 (.take 26 (.take 27 (.done))) (.stop)) (.stop)))))) (.stop)) (.stop)))))) (.stop))))))))))))))) (by kernel_rfl) (by kernel_rfl) (fun _ _ h => h) ?_
    simp -implicitDefEqProofs only [push_cast, ↓reduceIte, Nat.reduceEqDiff, Nat.reduceAdd, Nat.reduceMul, Nat.reduceSub, Nat.reduceLeDiff, Nat.reduceLT, reduceCtorEq]
    suffices key18 : ∀ Fz : Fact, Fz.to F6 → K18 ⟨[(1, .v (.slice a 4 c)), (7, .own (.l 7) 0), (8, .v (.bool true)), (15, .v (.bool true)), (2000000, .any)], [(.l 7, .box [.v (.int .i64 late.first), .v (.slice a7 late.l.length c7), .v (.bool late.done)] 27)], Fz⟩ by
      clear hK7 hK18
      simp -implicitDefEqProofs only [push_cast, ↓reduceIte, Nat.reduceEqDiff, Nat.reduceAdd, Nat.reduceMul, Nat.reduceSub, Nat.reduceLeDiff, Nat.reduceLT, reduceCtorEq, decide_true, decide_false, SV.q_true, SV.q_false]
      have hsA := same_fn mA late _ _ F6 hpA hpl6 (by decide)
      have hq04 := part_fn L4 a c 0 4 false F6 hL6 (by decide) hc (by decide) (by decide) (by decide) sL4
      repeat' (first
        | exact key18 _ (Fact.to_left (Fact.to_left (Fact.to_refl _)))
        | (with_reducible refine callL_fn0 hsA ?_ (fun _ h => h) ?_
           · rfl
           intro v _ hv
           subst hv
           rw [e8]
           simp -implicitDefEqProofs only [push_cast, ↓reduceIte, Nat.reduceEqDiff, Nat.reduceAdd, Nat.reduceMul, Nat.reduceSub, Nat.reduceLeDiff, Nat.reduceLT, reduceCtorEq, decide_true, decide_false, SV.q_true, SV.q_false])
        | (with_reducible refine callL_fn hq04 ?_ (fun _ h => h) ?_
           · rfl
           rintro v G ⟨a4, c4, rfl, hc4, hG⟩
           have hpx : isPl p04 (F6.and G) (plV p04.first a4 p04.l.length c4 p04.done) := ⟨a4, c4, rfl, hc4, Fact.to_right hG⟩
           have hsB := same_fn mB p04 _ _ _ (isPl.to hpB (Fact.to_left (Fact.to_refl F6))) hpx (by decide)
           have hq34 := part_fn L4 a c 3 4 false _ (Fact.to_trans (Fact.to_left (Fact.to_refl F6) : (F6.and G).to F6) hL6) (by decide) hc (by decide) (by decide) (by decide) sL4
           simp -implicitDefEqProofs only [push_cast, ↓reduceIte, Nat.reduceEqDiff, Nat.reduceAdd, Nat.reduceMul, Nat.reduceSub, Nat.reduceLeDiff, Nat.reduceLT, reduceCtorEq])
        | (with_reducible refine callL_fn0 hsB ?_ (fun _ h => h) ?_
           · rfl
           intro v _ hv
           subst hv
           rw [e9]
           simp -implicitDefEqProofs only [push_cast, ↓reduceIte, Nat.reduceEqDiff, Nat.reduceAdd, Nat.reduceMul, Nat.reduceSub, Nat.reduceLeDiff, Nat.reduceLT, reduceCtorEq, decide_true, decide_false, SV.q_true, SV.q_false])
        | (with_reducible refine callL_fn hq34 ?_ (fun _ h => h) ?_
           · rfl
           rintro v G2 ⟨a5, c5, rfl, hc5, hG2⟩
           have hpy : isPl p34 ((F6.and G).and G2) (plV p34.first a5 p34.l.length c5 p34.done) := ⟨a5, c5, rfl, hc5, Fact.to_right hG2⟩
           have hsC := same_fn mC p34 _ _ _ (isPl.to hp13 (Fact.to_left (Fact.to_left (Fact.to_refl F6)))) hpy (by decide)
           simp -implicitDefEqProofs only [push_cast, ↓reduceIte, Nat.reduceEqDiff, Nat.reduceAdd, Nat.reduceMul, Nat.reduceSub, Nat.reduceLeDiff, Nat.reduceLT, reduceCtorEq])
        | (with_reducible refine callL_fn0 hsC ?_ (fun _ h => h) ?_
           · rfl
           intro v _ hv
           subst hv
           rw [e10]
           simp -implicitDefEqProofs only [push_cast, ↓reduceIte, Nat.reduceEqDiff, Nat.reduceAdd, Nat.reduceMul, Nat.reduceSub, Nat.reduceLeDiff, Nat.reduceLT, reduceCtorEq, decide_true, decide_false, SV.q_true, SV.q_false])
        | (exact fun h => h.elim)
        | (with_reducible refine And.intro (by omega) ?_)
        | (with_reducible refine And.intro ?_ ?_)
        | intro h
        | exact rfl)
    intro F7 hF7
    have hL7 := Fact.to_trans hF7 hL6
    have hpl7 := isPl.to hpl6 hF7
    have hl7 := Fact.to_trans hF7 hl6
    refine hK18 _ ?_
    clear hK18
    refine SC.seqN [1, 7, 8, 15, 16, 17, 2000000] [.l 7, .l 112, .l 113, .l 114, .l 115, .l 123, .l 124, .l 125, .l 126, .l 170] fun K19 hK19 => SC.region ?_
    simp -implicitDefEqProofs only [push_cast, ↓reduceIte, Nat.reduceEqDiff, Nat.reduceAdd, Nat.reduceMul, Nat.reduceSub, Nat.reduceLeDiff, Nat.reduceLT, reduceCtorEq]
    suffices key19 : ∀ (ov : Value) (Fz : Fact), Fz.to F7 → isIntss tR Fz ov → K19 ⟨[(1, .v (.slice a 4 c)), (7, .own (.l 7) 0), (8, .v (.bool true)), (15, .v (.bool true)), (16, .v ov), (17, .v (.int .i64 0)), (2000000, .any)], [(.l 7, .box [.v (.int .i64 late.first), .v (.slice a7 late.l.length c7), .v (.bool late.done)] 27)], Fz⟩ by
      clear hK7 hK19
      refine ⟨by omega, fun b b1 b2 b3 => ?_⟩
      have hsg : F7.to (rowF (slA a 0 c 20) (segsC (L4.take 2))) := by
        rw [slA_zero, ← segsC_take]
        exact rowF_take hL7 _
      obtain ⟨Fq, hFq⟩ : ∃ Fq, Fq = (((F7.and (cellsF b 0 [Value.int .i64 0, Value.int .i64 0, Value.int .i64 1])).and (cellsF b1 0 [Value.int .i64 3, Value.int .i64 3])).and (cellsF b2 0 [Value.int .i64 3, Value.int .i64 3])).and (cellsF b3 0 [Value.slice none 0 0, Value.slice (some ⟨b1, 0, none⟩) 2 2, Value.slice (some ⟨b2, 0, none⟩) 2 2]) := ⟨_, rfl⟩
      have k7 : Fq.to F7 := by rw [hFq]; exact fun _ h => h.1.1.1.1
      have k0 : Fq.to (cellsF b 0 (ints [0, 0, 1])) := by rw [hFq]; exact fun _ h => h.1.1.1.2
      have k1 : Fq.to (cellsF b1 0 (ints [3, 3])) := by rw [hFq]; exact fun _ h => h.1.1.2
      have k2 : Fq.to (cellsF b2 0 (ints [3, 3])) := by rw [hFq]; exact fun _ h => h.1.2
      have k3 : Fq.to (cellsF b3 0 [Value.slice none ([] : List Int).length 0, Value.slice (some ⟨b1, 0, none⟩) [(3 : Int), 3].length 2, Value.slice (some ⟨b2, 0, none⟩) [(3 : Int), 3].length 2]) := by rw [hFq]; exact fun _ h => h.2
      rw [← hFq]
      refine callL_fn (spread_fn (L4.take 2) [0, 0, 1] [[], [3, 3], [3, 3]] _ _ _ Fq (slA a 0 c 20) c rfl (show 2 ≤ c by omega) (Fact.to_trans k7 hsg) (isInts_cells rfl k0) (isIntss_three k3 ⟨Nat.le_refl _, rowF_nil _ _⟩ ⟨Nat.le_refl _, rowF_cells k1⟩ ⟨Nat.le_refl _, rowF_cells k2⟩) (by decide) (by decide) (by decide) (by decide)) rfl (fun _ h => h) ?_
      rintro v G ⟨ov, rfl, hov⟩
      rw [e11]
      simp -implicitDefEqProofs only [push_cast, ↓reduceIte, Nat.reduceEqDiff, Nat.reduceAdd, Nat.reduceMul, Nat.reduceSub, Nat.reduceLeDiff, Nat.reduceLT, reduceCtorEq]
      exact key19 ov _ (Fact.to_left k7) (hov.to (Fact.to_right (Fact.to_refl _)))
    intro ov F8 hF8 hov
    have hL8 := Fact.to_trans hF8 hL7
    have hpl8 := isPl.to hpl7 hF8
    have hl8 := Fact.to_trans hF8 hl7
    refine hK19 _ ?_
    clear hK19
    refine SC.seqN [1, 7, 8, 15, 18, 2000000] [.l 7, .l 112, .l 113, .l 114, .l 115, .l 123, .l 124, .l 125, .l 126, .l 170] fun K20 hK20 => SC.region ?_
    simp -implicitDefEqProofs only [push_cast, ↓reduceIte, Nat.reduceEqDiff, Nat.reduceAdd, Nat.reduceMul, Nat.reduceSub, Nat.reduceLeDiff, Nat.reduceLT, reduceCtorEq]
    suffices key20 : ∀ Fz : Fact, Fz.to F8 → K20 ⟨[(1, .v (.slice a 4 c)), (7, .own (.l 7) 0), (8, .v (.bool true)), (15, .v (.bool true)), (18, .v (.bool true)), (2000000, .any)], [(.l 7, .box [.v (.int .i64 late.first), .v (.slice a7 late.l.length c7), .v (.bool late.done)] 27)], Fz⟩ by
      clear hK7 hK20
      simp -implicitDefEqProofs only [push_cast, ↓reduceIte, Nat.reduceEqDiff, Nat.reduceAdd, Nat.reduceMul, Nat.reduceSub, Nat.reduceLeDiff, Nat.reduceLT, reduceCtorEq, decide_true, decide_false, SV.q_true, SV.q_false]
      refine ⟨fun b b1 b2 b3 => ?_, fun h => h.elim⟩
      obtain ⟨Fq, hFq⟩ : ∃ Fq, Fq = (((F8.and (cellsF b 0 [Value.int .i64 110, Value.int .i64 120])).and (cellsF b1 0 [Value.int .i64 113, Value.int .i64 123])).and (cellsF b2 0 [Value.int .i64 116, Value.int .i64 126])).and (cellsF b3 0 [Value.slice (some ⟨b, 0, none⟩) 2 2, Value.slice (some ⟨b1, 0, none⟩) 2 2, Value.slice (some ⟨b2, 0, none⟩) 2 2]) := ⟨_, rfl⟩
      have k7 : Fq.to F8 := by rw [hFq]; exact fun _ h => h.1.1.1.1
      have k0 : Fq.to (cellsF b 0 (ints [110, 120])) := by rw [hFq]; exact fun _ h => h.1.1.1.2
      have k1 : Fq.to (cellsF b1 0 (ints [113, 123])) := by rw [hFq]; exact fun _ h => h.1.1.2
      have k2 : Fq.to (cellsF b2 0 (ints [116, 126])) := by rw [hFq]; exact fun _ h => h.1.2
      have k3 : Fq.to (cellsF b3 0 [Value.slice (some ⟨b, 0, none⟩) [(110 : Int), 120].length 2, Value.slice (some ⟨b1, 0, none⟩) [(113 : Int), 123].length 2, Value.slice (some ⟨b2, 0, none⟩) [(116 : Int), 126].length 2]) := by rw [hFq]; exact fun _ h => h.2
      rw [← hFq]
      refine callL_fn0 (sameTimes_fn tR [[110, 120], [113, 123], [116, 126]] _ _ Fq (hov.to k7) (isIntss_three k3 ⟨Nat.le_refl _, rowF_cells k0⟩ ⟨Nat.le_refl _, rowF_cells k1⟩ ⟨Nat.le_refl _, rowF_cells k2⟩) (by decide +kernel) (by decide) (by decide +kernel) (by decide)) rfl (fun _ h => h) fun v G hv => ?_
      subst hv
      rw [show timesEq tR [[110, 120], [113, 123], [116, 126]] = true from e12]
      simp -implicitDefEqProofs only [push_cast, ↓reduceIte, Nat.reduceEqDiff, Nat.reduceAdd, Nat.reduceMul, Nat.reduceSub, Nat.reduceLeDiff, Nat.reduceLT, reduceCtorEq]
      exact key20 _ k7
    intro F9 hF9
    have hL9 := Fact.to_trans hF9 hL8
    have hpl9 := isPl.to hpl8 hF9
    have hl9 := Fact.to_trans hF9 hl8
    clear hov
    refine hK20 _ ?_
    clear hK20
    refine SC.seqN [1, 7, 8, 15, 18, 19, 20, 2000000] [.l 7, .l 112, .l 113, .l 114, .l 115, .l 123, .l 124, .l 125, .l 126, .l 170] fun K21 hK21 => SC.region ?_
    simp -implicitDefEqProofs only [push_cast, ↓reduceIte, Nat.reduceEqDiff, Nat.reduceAdd, Nat.reduceMul, Nat.reduceSub, Nat.reduceLeDiff, Nat.reduceLT, reduceCtorEq]
    suffices key21 : ∀ Fz : Fact, Fz.to F9 → K21 ⟨[(1, .v (.slice a 4 c)), (7, .own (.l 7) 0), (8, .v (.bool true)), (15, .v (.bool true)), (18, .v (.bool true)), (19, .v (.string (tx tX))), (20, .v (.int .i64 0)), (2000000, .any)], [(.l 7, .box [.v (.int .i64 late.first), .v (.slice a7 late.l.length c7), .v (.bool late.done)] 27)], Fz⟩ by
      clear hK7 hK21
      refine callL_fn (text_fn late _ F9 hl9 hpl9 (by decide) e17) rfl (fun _ h => h) ?_
      rintro v G rfl
      rw [e13]
      simp -implicitDefEqProofs only [push_cast, ↓reduceIte, Nat.reduceEqDiff, Nat.reduceAdd, Nat.reduceMul, Nat.reduceSub, Nat.reduceLeDiff, Nat.reduceLT, reduceCtorEq]
      exact key21 _ (Fact.to_left (Fact.to_refl _))
    intro F10 hF10
    have hL10 := Fact.to_trans hF10 hL9
    have hpl10 := isPl.to hpl9 hF10
    have hl10 := Fact.to_trans hF10 hl9
    refine hK21 _ ?_
    clear hK21
    refine SC.seqN [1, 7, 8, 15, 18, 20, 21, 22, 2000000] [.l 7, .l 112, .l 113, .l 114, .l 115, .l 123, .l 124, .l 125, .l 126, .l 21, .l 170] fun K22 hK22 => SC.region ?_
    simp -implicitDefEqProofs only [push_cast, ↓reduceIte, Nat.reduceEqDiff, Nat.reduceAdd, Nat.reduceMul, Nat.reduceSub, Nat.reduceLeDiff, Nat.reduceLT, reduceCtorEq]
    suffices key22 : ∀ (a3 : Option Addr) (c3 : Nat) (Fz : Fact), Fz.to F10 → isPl pU Fz (plV pU.first a3 pU.l.length c3 pU.done) → K22 ⟨[(1, .v (.slice a 4 c)), (7, .own (.l 7) 0), (8, .v (.bool true)), (15, .v (.bool true)), (18, .v (.bool true)), (20, .v (.int .i64 0)), (21, .own (.l 21) 0), (22, .v (.int .i64 0)), (2000000, .any)], [(.l 7, .box [.v (.int .i64 late.first), .v (.slice a7 late.l.length c7), .v (.bool late.done)] 27), (.l 21, .box [.v (.int .i64 pU.first), .v (.slice a3 pU.l.length c3), .v (.bool pU.done)] 27)], Fz⟩ by
      clear hK7 hK22
      refine callL_fn (parse_fn tX F10 hl10 (by decide +kernel)) rfl (fun _ h => h) ?_
      rintro v G ⟨pv, rfl, a3, c3, rfl, hc3, hG⟩
      rw [e14]
      simp -implicitDefEqProofs only [push_cast, ↓reduceIte, Nat.reduceEqDiff, Nat.reduceAdd, Nat.reduceMul, Nat.reduceSub, Nat.reduceLeDiff, Nat.reduceLT, reduceCtorEq, plV]
      exact key22 a3 c3 _ (Fact.to_left (Fact.to_refl _)) ⟨a3, c3, rfl, hc3, Fact.to_right hG⟩
    intro a21 c21 F11 hF11 hp21
    have hL11 := Fact.to_trans hF11 hL10
    have hpl11 := isPl.to hpl10 hF11
    refine hK22 _ ?_
    clear hK22
    refine SC.seqN [0, 2000000] [.l 112, .l 113, .l 114, .l 115, .l 123, .l 124, .l 125, .l 126, .l 170] fun K23 hK23 => SC.region ?_
    simp -implicitDefEqProofs only [push_cast, ↓reduceIte, Nat.reduceEqDiff, Nat.reduceAdd, Nat.reduceMul, Nat.reduceSub, Nat.reduceLeDiff, Nat.reduceLT, reduceCtorEq]
    suffices key23 : ∀ Fz : Fact, K23 ⟨[(0, .v (.bool true)), (2000000, .any)], [], Fz⟩ by
      clear hK7 hK23
      have hs1 := same_fn pU late _ _ F11 hp21 hpl11 (by decide +kernel)
      have hs2 := lag_fn 2 3 10 F11 (by decide) (by decide) (by decide)
      have hs3 := gap_fn 2 3 10 F11 (by decide) (by decide) (by decide)
      simp -implicitDefEqProofs only [push_cast, ↓reduceIte, Nat.reduceEqDiff, Nat.reduceAdd, Nat.reduceMul, Nat.reduceSub, Nat.reduceLeDiff, Nat.reduceLT, reduceCtorEq, decide_true, decide_false, SV.q_true, SV.q_false]
      repeat' (first
        | exact key23 _
        | (exact fun h => h.elim)
        | (refine callL_fn0 hs1 rfl (fun _ h => h) ?_
           intro v _ hv
           subst hv
           rw [e15]
           simp -implicitDefEqProofs only [push_cast, ↓reduceIte, Nat.reduceEqDiff, Nat.reduceAdd, Nat.reduceMul, Nat.reduceSub, Nat.reduceLeDiff, Nat.reduceLT, reduceCtorEq, decide_true, decide_false, SV.q_true, SV.q_false])
        | (refine callL_fn0 hs2 rfl (fun _ h => h) ?_
           intro v _ hv
           subst hv
           rw [show (10 : Int) + 2 * 3 = 16 from rfl]
           simp -implicitDefEqProofs only [push_cast, ↓reduceIte, Nat.reduceEqDiff, Nat.reduceAdd, Nat.reduceMul, Nat.reduceSub, Nat.reduceLeDiff, Nat.reduceLT, reduceCtorEq, decide_true, decide_false, SV.q_true, SV.q_false])
        | (refine callL_fn0 hs3 rfl (fun _ h => h) ?_
           intro v _ hv
           subst hv
           rw [show ((2 : Int) * 3 + 10 - 1) / 10 = 1 from rfl]
           simp -implicitDefEqProofs only [push_cast, ↓reduceIte, Nat.reduceEqDiff, Nat.reduceAdd, Nat.reduceMul, Nat.reduceSub, Nat.reduceLeDiff, Nat.reduceLT, reduceCtorEq, decide_true, decide_false, SV.q_true, SV.q_false])
        | (with_reducible refine And.intro ?_ ?_))
      · omega
      · omega
      intro b
      have hsg : F11.to (rowF (slA a 0 c 20) (segsC (L4.take 2))) := by
        rw [slA_zero, ← segsC_take]
        exact rowF_take hL11 _
      obtain ⟨Fq, hFq⟩ : ∃ Fq, Fq = F11.and (cellsF b 0 [Value.int .i64 116, Value.int .i64 126]) := ⟨_, rfl⟩
      have k7 : Fq.to F11 := by rw [hFq]; exact fun _ h => h.1
      have k0 : Fq.to (cellsF b 0 (ints [116, 126])) := by rw [hFq]; exact fun _ h => h.2
      rw [← hFq]
      refine callL_fn (seen_fn (L4.take 2) [116, 126] (slA a 0 c 20) (some ⟨b, 0, none⟩) c 2 125 3 Fq (Fact.to_trans k7 hsg) (rowF_cells k0) (show 2 ≤ c by omega) (by decide) (by decide) (fun s hs => sL4 s (List.mem_of_mem_take hs)) (by decide)) rfl (fun _ h => h) ?_
      rintro v G ⟨a4, c4, rfl, hc4, hG⟩
      have hpx : isPl sX (Fq.and G) (plV sX.first a4 sX.l.length c4 sX.done) := ⟨a4, c4, rfl, hc4, Fact.to_right hG⟩
      have hLy := Fact.to_trans (Fact.to_trans (Fact.to_left (Fact.to_refl Fq) : (Fq.and G).to Fq) k7) hL11
      simp -implicitDefEqProofs only [push_cast, ↓reduceIte, Nat.reduceEqDiff, Nat.reduceAdd, Nat.reduceMul, Nat.reduceSub, Nat.reduceLeDiff, Nat.reduceLT, reduceCtorEq]
      refine callL_fn (part_fn L4 a c 0 1 false _ hLy (by decide) hc (by decide) (by decide) (by decide) sL4) rfl (fun _ h => h) ?_
      rintro v G2 ⟨a5, c5, rfl, hc5, hG2⟩
      have hpy : isPl p01 ((Fq.and G).and G2) (plV p01.first a5 p01.l.length c5 p01.done) := ⟨a5, c5, rfl, hc5, Fact.to_right hG2⟩
      simp -implicitDefEqProofs only [push_cast, ↓reduceIte, Nat.reduceEqDiff, Nat.reduceAdd, Nat.reduceMul, Nat.reduceSub, Nat.reduceLeDiff, Nat.reduceLT, reduceCtorEq]
      refine callL_fn0 (same_fn sX p01 _ _ _ (isPl.to hpx (Fact.to_left (Fact.to_refl _))) hpy (by decide)) rfl (fun _ h => h) ?_
      intro v _ hv
      subst hv
      rw [e16]
      simp -implicitDefEqProofs only [push_cast, ↓reduceIte, Nat.reduceEqDiff, Nat.reduceAdd, Nat.reduceMul, Nat.reduceSub, Nat.reduceLeDiff, Nat.reduceLT, reduceCtorEq]
      exact key23 _
    intro F12
    refine hK23 _ ?_
    clear hK23
    refine SC.ret ?_
    simp -implicitDefEqProofs only [push_cast, ↓reduceIte, Nat.reduceEqDiff, Nat.reduceAdd, Nat.reduceMul, Nat.reduceSub, Nat.reduceLeDiff, Nat.reduceLT, reduceCtorEq, Tryd.f8]
end Go.Proofs.YtmamodnpghlgcaaDoor
/- small: what is asked of the sizes. -/

set_option linter.unusedSimpArgs false
set_option linter.unusedVariables false
set_option maxRecDepth 100000
set_option maxHeartbeats 4000000
namespace Go.Proofs.YtmamodnpghlgcaaDoor
open Go.RowKit
def smallB (l : List Seg) (ps : List Int) (ds : List (List Int)) : Bool := (ds.all fun d => decide (d.length ≤ 60)) && (decide (l.length ≤ 60) && (decide (ps.length ≤ 12) && decide (ds.length ≤ 12)))
theorem small_fn (l : List Seg) (ps : List Int) (ds : List (List Int)) (vP vD : Value) (F : Fact) (a : Option Addr) (c : Nat) (hP : isInts ps F vP) (hD : isIntss ds F vD) (hdl : ds.length ≤ maxLen) : Fn Tryd.prog 16 [.slice a l.length c, vP, vD] F fun v _ => v = .bool (smallB l ps ds) := by
  rw [mxl] at hdl
  obtain ⟨aP, cP, rfl, hcP, hFP⟩ := hP
  obtain ⟨aD, cD, aa, cc, rfl, hcD, hFD, hRD⟩ := hD
  refine Fn.of_body Tryd.func16 rfl (Nat.le_of_ble_eq_true rfl) (Nat.le_of_ble_eq_true rfl) (by kernel_rfl) ?_
  refine SC.seqN [0, 1, 2] [] fun K1 hK1 => SC.region ?_
  simp -implicitDefEqProofs only [push_cast, ↓reduceIte, Nat.reduceEqDiff, Nat.reduceAdd, Nat.reduceMul, Nat.reduceSub, Nat.reduceLeDiff, Nat.reduceLT, reduceCtorEq]
  refine hK1 _ ?_
  clear hK1
  refine SC.seqN [0, 1, 2] [] fun K2 hK2 => ?_
  refine SC.seqN [0, 1, 2, 9, 10, 11] [] fun K3 hK3 => SC.region ?_
  simp -implicitDefEqProofs only [push_cast, ↓reduceIte, Nat.reduceEqDiff, Nat.reduceAdd, Nat.reduceMul, Nat.reduceSub, Nat.reduceLeDiff, Nat.reduceLT, reduceCtorEq]
  refine hK3 _ ?_
  clear hK3
  refine SC.block ?_
  refine SC.loop (fun i : Nat => ⟨[(0, .v (.slice a l.length c)), (1, .v (.slice aP ps.length cP)), (2, .v (.slice aD ds.length cD)), (9, .v (.slice aD ds.length cD)), (10, .v (.int .i64 ds.length)), (11, .v (.int .i64 i))], [], F⟩) (fun i => i ≤ ds.length ∧ ∀ j d, j < i → ds[j]? = some d → d.length ≤ 60) (fun i => ds.length - i) 0 (Le.refl _) ⟨Nat.zero_le _, fun j d hj => absurd hj (Nat.not_lt_zero j)⟩ fun i hx => ?_
  obtain ⟨hi, hbd⟩ := hx
  refine SC.seqN [0, 1, 2, 9, 10, 11, 12] [] fun K4 hK4 => SC.region ?_
  simp -implicitDefEqProofs only [push_cast, ↓reduceIte, Nat.reduceEqDiff, Nat.reduceAdd, Nat.reduceMul, Nat.reduceSub, Nat.reduceLeDiff, Nat.reduceLT, reduceCtorEq]
  refine hK4 _ ?_
  clear hK4
  refine SC.seqN [0, 1, 2, 9, 10, 11] [] fun K5 hK5 => ?_
  refine SC.cond ?_
  simp -implicitDefEqProofs only [push_cast, ↓reduceIte, Nat.reduceEqDiff, Nat.reduceAdd, Nat.reduceMul, Nat.reduceSub, Nat.reduceLeDiff, Nat.reduceLT, reduceCtorEq]
  refine ⟨fun h1 => ?_, fun h1 => ?_⟩
  · skip
    have hil : i < ds.length := by omega
    have hgi : ds[i]? = some ds[i] := List.getElem?_eq_getElem hil
    refine SC.skip ?_
    simp -implicitDefEqProofs only [push_cast, ↓reduceIte, Nat.reduceEqDiff, Nat.reduceAdd, Nat.reduceMul, Nat.reduceSub, Nat.reduceLeDiff, Nat.reduceLT, reduceCtorEq]
    refine hK5 _ ?_
    clear hK5
    refine SC.seqN [0, 1, 2, 9, 10, 11] [] fun K6 hK6 => ?_
    refine SC.block ?_
    refine SC.seqN [0, 1, 2, 8, 9, 10, 11] [] fun K7 hK7 => SC.region ?_
    simp -implicitDefEqProofs only [push_cast, ↓reduceIte, Nat.reduceEqDiff, Nat.reduceAdd, Nat.reduceMul, Nat.reduceSub, Nat.reduceLeDiff, Nat.reduceLT, reduceCtorEq]
    refine ⟨by omega, rowF_some hFD (slcs_ne (by omega)), loadRow i hFD hgi rfl ?_⟩
    simp -implicitDefEqProofs only [push_cast, ↓reduceIte, Nat.reduceEqDiff, Nat.reduceAdd, Nat.reduceMul, Nat.reduceSub, Nat.reduceLeDiff, Nat.reduceLT, reduceCtorEq]
    refine hK7 _ ?_
    clear hK7
    refine SC.seqN [0, 1, 2, 9, 10, 11, 17] [] fun K8 hK8 => SC.region ?_
    simp -implicitDefEqProofs only [push_cast, ↓reduceIte, Nat.reduceEqDiff, Nat.reduceAdd, Nat.reduceMul, Nat.reduceSub, Nat.reduceLeDiff, Nat.reduceLT, reduceCtorEq]
    refine hK8 _ ?_
    clear hK8
    refine SC.cond ?_
    simp -implicitDefEqProofs only [push_cast, ↓reduceIte, Nat.reduceEqDiff, Nat.reduceAdd, Nat.reduceMul, Nat.reduceSub, Nat.reduceLeDiff, Nat.reduceLT, reduceCtorEq]
    refine ⟨fun h2 => ?_, fun h2 => ?_⟩
    · skip
      refine SC.seqN [6] [] fun K9 hK9 => SC.region ?_
      simp -implicitDefEqProofs only [push_cast, ↓reduceIte, Nat.reduceEqDiff, Nat.reduceAdd, Nat.reduceMul, Nat.reduceSub, Nat.reduceLeDiff, Nat.reduceLT, reduceCtorEq]
      refine hK9 _ ?_
      clear hK9
      refine SC.ret ?_
      simp -implicitDefEqProofs only [push_cast, ↓reduceIte, Nat.reduceEqDiff, Nat.reduceAdd, Nat.reduceMul, Nat.reduceSub, Nat.reduceLeDiff, Nat.reduceLT, reduceCtorEq, Tryd.f16]
      unfold smallB
      have : (ds.all fun d => decide (d.length ≤ 60)) = false := by
        rw [List.all_eq_false]
        exact ⟨_, List.getElem_mem hil, by simp; omega⟩
      rw [this]
      rfl
    · skip
      refine SC.skip ?_
      simp -implicitDefEqProofs only [push_cast, ↓reduceIte, Nat.reduceEqDiff, Nat.reduceAdd, Nat.reduceMul, Nat.reduceSub, Nat.reduceLeDiff, Nat.reduceLT, reduceCtorEq]
      refine hK6 _ ?_
      clear hK6
      refine SC.region ?_
      simp -implicitDefEqProofs only [push_cast, ↓reduceIte, Nat.reduceEqDiff, Nat.reduceAdd, Nat.reduceMul, Nat.reduceSub, Nat.reduceLeDiff, Nat.reduceLT, reduceCtorEq]
      refine ⟨by omega, ?_⟩
      refine ⟨i + 1, ⟨by omega, fun j d hj hd => ?_⟩, by omega, Le.norm _ [0, 1, 2, 9, 10, 11] []⟩
      rcases Nat.lt_succ_iff_lt_or_eq.1 hj with hj | rfl
      · exact hbd j d hj hd
      · rw [hgi] at hd
        obtain rfl := Option.some.inj hd
        omega
  · skip
    have hin : i = ds.length := by omega
    have hall : (ds.all fun d => decide (d.length ≤ 60)) = true := by
      rw [List.all_eq_true]
      intro d hd
      obtain ⟨j, hj, rfl⟩ := List.getElem_of_mem hd
      simpa using hbd j _ (by omega) (List.getElem?_eq_getElem hj)
    refine SC.exit ?_
    simp -implicitDefEqProofs only [push_cast, ↓reduceIte, Nat.reduceEqDiff, Nat.reduceAdd, Nat.reduceMul, Nat.reduceSub, Nat.reduceLeDiff, Nat.reduceLT, reduceCtorEq]
    refine hK2 _ ?_
    clear hK2
    refine SC.seqN [6] [] fun K10 hK10 => SC.region ?_
    simp -implicitDefEqProofs only [push_cast, ↓reduceIte, Nat.reduceEqDiff, Nat.reduceAdd, Nat.reduceMul, Nat.reduceSub, Nat.reduceLeDiff, Nat.reduceLT, reduceCtorEq]
    suffices key10 : ∀ q, q = smallB l ps ds → K10 ⟨[(6, .v (.bool q))], [], F⟩ by
      clear hK5 hK10
      unfold smallB at key10
      rw [hall, Bool.true_and] at key10
      repeat' (first
        | (refine key10 _ ?_)
        | (with_reducible refine And.intro (by omega) ?_)
        | (with_reducible refine And.intro ?_ ?_)
        | intro h
        | exact rfl)
      all_goals (rw [Bool.eq_iff_iff]; simp only [Bool.and_eq_true, decide_eq_true_eq, Bool.false_eq_true, false_iff, true_iff]; omega)
    intro q hq
    refine hK10 _ ?_
    clear hK10
    refine SC.ret ?_
    simp -implicitDefEqProofs only [push_cast, ↓reduceIte, Nat.reduceEqDiff, Nat.reduceAdd, Nat.reduceMul, Nat.reduceSub, Nat.reduceLeDiff, Nat.reduceLT, reduceCtorEq, Tryd.f16]
    rw [hq]
end Go.Proofs.YtmamodnpghlgcaaDoor
/- The plain law of the merge of parts of a stream. -/
set_option linter.unusedSimpArgs false
set_option linter.unusedVariables false
namespace Go.Proofs.YtmamodnpghlgcaaDoor
open Go.RowKit
/-- A part of a stream. -/
def prt (l : List Seg) (f t : Nat) (d : Bool) : Pl := ⟨seenF l + f, (l.drop f).take (t - f), d && decide (t = l.length)⟩
theorem prt_eq {l : List Seg} (h : 0 < l.length) {f t : Int} (hf : 0 ≤ f) (ht : 0 ≤ t) (d : Bool) : partM l f t d = prt l f.toNat t.toNat d := by
  unfold partM prt seenF
  rw [List.getElem?_eq_getElem h]
  simp only
  have e1 : (t - f).toNat = t.toNat - f.toNat := by omega
  have e2 : (decide (t = (l.length : Int))) = decide (t.toNat = l.length) := decide_eq_decide.2 (by omega)
  have e3 : (f.toNat : Int) = f := by omega
  rw [e1, e2, e3]
theorem prt_len {l : List Seg} {f t : Nat} {d : Bool} (h : t ≤ l.length) : (prt l f t d).l.length = t - f := by
  simp only [prt, List.length_take, List.length_drop]
  omega
theorem prt_next {l : List Seg} {f t : Nat} {d : Bool} (hf : f ≤ t) (h : t ≤ l.length) : (prt l f t d).next = seenF l + t := by
  unfold Pl.next
  rw [prt_len h]
  simp only [prt]
  omega
theorem prt_get {l : List Seg} {f t : Nat} {d : Bool} {i : Nat} (h : i < t - f) : (prt l f t d).l[i]? = l[f + i]? := by
  simp only [prt]
  rw [List.getElem?_take, if_pos h, List.getElem?_drop]
theorem prt_mem {l : List Seg} {f t : Nat} {d : Bool} : ∀ s ∈ (prt l f t d).l, s ∈ l := fun s hs => List.mem_of_mem_drop (List.mem_of_mem_take hs)
theorem stream_len {l : List Seg} (h : streamB l = true) : l.length ≤ 1000 := by
  simp only [streamB, Bool.and_eq_true, decide_eq_true_eq] at h
  exact h.2
theorem stream_right {l : List Seg} (h : streamB l = true) : ∀ s ∈ l, rightB s = true := by
  intro s hs
  obtain ⟨i, hi, rfl⟩ := List.getElem_of_mem hs
  exact okB_get hi (stream_okB h hi)
theorem stream_step {l : List Seg} (h : streamB l = true) {i : Nat} (hi : i + 1 < l.length) : l[i + 1].num = l[i].num + 1 ∧ l[i + 1].beg = l[i].fin := by
  have h1 := stream_okB h hi
  rw [okB_pos (by omega) hi] at h1
  simp only [Bool.and_eq_true, decide_eq_true_eq, Nat.add_sub_cancel] at h1
  exact ⟨h1.1.2, h1.2⟩
theorem stream_sub {l : List Seg} (h : streamB l = true) (f n : Nat) : streamB ((l.drop f).take n) = true := by
  have hlen := stream_len h
  simp only [streamB, Bool.and_eq_true, List.all_eq_true, List.mem_range, decide_eq_true_eq]
  have hl : ((l.drop f).take n).length = min n (l.length - f) := by simp only [List.length_take, List.length_drop]
  refine ⟨fun i hi => ?_, by rw [hl]; exact Nat.le_trans (Nat.min_le_right _ _) (by omega)⟩
  have hi2 : i < n ∧ f + i < l.length := by
    rw [hl] at hi
    have := Nat.lt_of_lt_of_le hi (Nat.min_le_left _ _)
    have := Nat.lt_of_lt_of_le hi (Nat.min_le_right _ _)
    omega
  have hg : ∀ (j : Nat) (hj : j < ((l.drop f).take n).length) (hj2 : f + j < l.length), ((l.drop f).take n)[j] = l[f + j] := by
    intro j hj hj2
    rw [List.getElem_take, List.getElem_drop]
  cases i with
  | zero =>
    rw [okB_zero hi, hg 0 hi (by omega)]
    exact stream_right h _ (List.getElem_mem _)
  | succ i =>
    have e := hg i (by omega) (by omega)
    rw [okB_pos (by omega) hi, hg (i + 1) hi (by omega)]
    simp only [Nat.add_sub_cancel, e]
    obtain ⟨h1, h2⟩ := stream_step h (i := f + i) (by omega)
    have h3 := stream_right h l[f + (i + 1)] (List.getElem_mem _)
    simp only [Bool.and_eq_true, decide_eq_true_eq]
    exact ⟨⟨h3, h1⟩, h2⟩
theorem stream_at {l : List Seg} (h : streamB l = true) {i : Nat} (hi : i < l.length) : l[i].num = seenF l + i := stream_nums h i hi
theorem prt_valid {l : List Seg} (h : streamB l = true) {f t : Nat} {d : Bool} (hf : f < t) (ht : t ≤ l.length) (hl : l.length ≤ 100) : validB (prt l f t d) = true := by
  have hlen := prt_len (f := f) (d := d) ht
  have h0 : 0 < (prt l f t d).l.length := by omega
  have hg : (prt l f t d).l[0] = l[f] := by
    simp only [prt, List.getElem_take, List.getElem_drop, Nat.add_zero]
  have hr := right_bd (stream_right h l[f] (List.getElem_mem _))
  have hn := stream_at h (show f < l.length by omega)
  simp only [validB, Bool.and_eq_true, decide_eq_true_eq]
  refine ⟨⟨⟨⟨?_, ?_⟩, by omega⟩, ?_⟩, stream_sub h f (t - f)⟩
  · show 0 ≤ seenF l + f; omega
  · show seenF l + f ≤ _; omega
  · rw [headB_pos h0, hg, decide_eq_true_eq, hn]
    rfl
theorem prt_nums {l : List Seg} (h : streamB l = true) {f t : Nat} {d : Bool} (ht : t ≤ l.length) : numsF (prt l f t d).first (prt l f t d).l := by
  intro i hi
  have hlen := prt_len (f := f) (d := d) ht
  have hi2 : f + i < l.length := by omega
  have hg : (prt l f t d).l[i] = l[f + i] := by simp only [prt, List.getElem_take, List.getElem_drop]
  rw [hg, stream_at h hi2]
  show _ = seenF l + f + i
  omega
/-- From where the merge of two parts goes. -/
def frm (f0 t0 f1 t1 : Nat) : Nat := if t0 < t1 then (if f1 ≤ t0 then min f0 f1 else f1) else (if f0 ≤ t1 then min f0 f1 else f0)
theorem frm_lt {f0 t0 f1 t1 : Nat} (h0 : f0 < t0) (h1 : f1 < t1) : frm f0 t0 f1 t1 < max t0 t1 := by
  unfold frm
  split
  · split <;> omega
  · split <;> omega
theorem frm_comm {f0 t0 f1 t1 : Nat} (h0 : f0 < t0) (h1 : f1 < t1) : frm f0 t0 f1 t1 = frm f1 t1 f0 t0 := by
  unfold frm
  repeat' split
  all_goals omega
theorem frm_min {f0 t0 f1 t1 : Nat} (h0 : f0 < t0) (h1 : f1 < t1) (a : f0 ≤ t1) (b : f1 ≤ t0) : frm f0 t0 f1 t1 = min f0 f1 := by
  unfold frm
  rw [if_pos a, if_pos b]
  split <;> rfl
theorem frm_big {f0 t0 f1 t1 : Nat} (h0 : f0 < t0) (h1 : f1 < t1) (h : min f0 f1 < frm f0 t0 f1 t1) : min t0 t1 < max f0 f1 := by
  unfold frm at h
  repeat' split at h
  all_goals omega
theorem clash_same {l : List Seg} (h : streamB l = true) {f t : Nat} {d : Bool} (ht : t ≤ l.length) {s : Seg} (hs : s ∈ l) : clash (prt l f t d).l s = false := by
  unfold clash
  cases hf : findM (prt l f t d).l s.num with
  | none => rfl
  | some x =>
    have h1 : x.num = s.num := by simpa using List.find?_some hf
    have h2 : x ∈ l := prt_mem _ (List.mem_of_find?_eq_some hf)
    obtain ⟨i, hi, rfl⟩ := List.getElem_of_mem hs
    obtain ⟨j, hj, rfl⟩ := List.getElem_of_mem h2
    rw [stream_at h hi, stream_at h hj] at h1
    have : i = j := by omega
    subst this
    simp only [segEqB_refl, Bool.not_true]
theorem fork_prt {l : List Seg} (h : streamB l = true) {fe te fl tl : Nat} {d : Bool} (he : fe < te) (hl : fl < tl) (hte : te ≤ tl) (htl : tl ≤ l.length) : forkB (prt l fe te d) (prt l fl tl d) = false := by
  unfold forkB
  rw [Bool.or_eq_false_iff, Bool.or_eq_false_iff]
  refine ⟨?_, ?_, ?_⟩
  · rw [List.any_eq_false]
    intro s hs
    rw [clash_same h htl (prt_mem _ hs)]
    decide
  · rw [prt_next (by omega) (by omega), prt_next (by omega) htl]
    show ((d && decide (te = l.length)) && decide (seenF l + (te : Int) < seenF l + (tl : Int))) = false
    by_cases hd : te = l.length
    · rw [show decide (seenF l + (te : Int) < seenF l + (tl : Int)) = false from decide_eq_false (by omega), Bool.and_false]
    · rw [decide_eq_false hd, Bool.and_false, Bool.false_and]
  · unfold forkE
    have hlen := prt_len (f := fl) (d := d) htl
    have hlen2 := prt_len (f := fe) (t := te) (l := l) (d := d) (by omega)
    by_cases hj : te = fl
    · subst hj
      have h0 : 0 < (prt l te tl d).l.length := by omega
      have e1 : (prt l te tl d).l[0]? = some l[te] := by rw [prt_get (by omega), Nat.add_zero, List.getElem?_eq_getElem (by omega)]
      have e2 : (prt l fe te d).edge = l[te - 1].fin := by
        unfold Pl.edge
        rw [List.getLast?_eq_getElem?, hlen2, prt_get (by omega), show fe + (te - fe - 1) = te - 1 by omega, List.getElem?_eq_getElem (by omega)]
      have h3 := (stream_step h (i := te - 1) (by omega)).2
      have e3 : l[te].beg = l[te - 1].fin := by
        rw [← h3]
        congr 2
        omega
      rw [e1, e2]
      simp only [e3, ne_eq, not_true_eq_false, decide_false, Bool.and_false]
    · rw [prt_next (by omega) (by omega), show decide (seenF l + (te : Int) = (prt l fl tl d).first) = false from decide_eq_false (by show ¬ (_ = seenF l + (fl : Int)); omega)]
      simp
theorem mOut_prt {l : List Seg} {fe te fl tl : Nat} {d d' : Bool} (he : fe < te) (hl : fl < tl) (hte : te ≤ tl) (htl : tl ≤ l.length) (hd : d' = (d && decide (tl = l.length))) : mOut (prt l fe te d) (prt l fl tl d) d' = prt l (if fl ≤ te then min fe fl else fl) tl d := by
  have hlen := prt_len (f := fl) (d := d) htl
  have hlen2 := prt_len (f := fe) (t := te) (l := l) (d := d) (by omega)
  have hj : mJoin (prt l fe te d) (prt l fl tl d) = decide (fl ≤ te) := by
    unfold mJoin
    rw [hlen, hlen2, prt_next (by omega) (by omega), decide_eq_true (show 0 < te - fe by omega), decide_eq_true (show 0 < tl - fl by omega), Bool.true_and, Bool.true_and]
    refine decide_eq_decide.2 ?_
    show seenF l + (fl : Int) ≤ seenF l + te ↔ _
    omega
  unfold mOut
  rw [hj]
  by_cases hc : fl ≤ te
  · rw [if_pos (by simpa using hc), if_pos hc]
    have hb : mBefore (prt l fe te d) (prt l fl tl d) = ((fl - fe : Nat) : Int) := by
      unfold mBefore
      show max 0 (seenF l + (fl : Int) - (seenF l + fe)) = _
      omega
    rw [hb]
    unfold prt
    simp only [Int.toNat_natCast]
    rw [hd]
    by_cases hm : fe ≤ fl
    · rw [Nat.min_eq_left hm]
      congr 1
      · omega
      · rw [List.take_take, Nat.min_eq_left (by omega)]
        have e1 : (l.drop fe).drop (fl - fe) = l.drop fl := by rw [List.drop_drop]; congr 1; omega
        have e2 : tl - fe = (fl - fe) + (tl - fl) := by omega
        rw [e2, List.take_add, e1]
    · rw [Nat.min_eq_right (by omega), show fl - fe = 0 by omega]
      simp
  · rw [if_neg (by simpa using hc), if_neg hc]
    rw [hd]
    rfl
theorem cut_prt {l : List Seg} {f t : Nat} {d : Bool} (ht : t ≤ l.length) (hl : l.length ≤ 100) : (prt l f t d).cut 100 = prt l f t d := by
  have hlen := prt_len (f := f) (d := d) ht
  unfold Pl.cut
  rw [hlen, show ((t - f : Nat) - (100 : Int)).toNat = 0 by omega]
  simp
/-- Two parts of a stream together are a part of it. -/
theorem merge_prt {l : List Seg} (h : streamB l = true) (hl : l.length ≤ 100) {f0 t0 f1 t1 : Nat} {d : Bool} (h0 : f0 < t0) (h1 : f1 < t1) (ht0 : t0 ≤ l.length) (ht1 : t1 ≤ l.length) : mergeP (prt l f0 t0 d) (prt l f1 t1 d) 100 = (prt l (frm f0 t0 f1 t1) (max t0 t1) d, 0) := by
  unfold mergeP
  rw [if_neg (by decide)]
  unfold mE mL frm
  rw [prt_next (by omega) ht0, prt_next (by omega) ht1]
  by_cases hc : t0 < t1
  · have c1 : seenF l + (t0 : Int) < seenF l + (t1 : Int) := by omega
    simp only [if_pos c1, if_pos hc]
    rw [fork_prt h h0 h1 (by omega) ht1, Nat.max_eq_right (by omega)]
    rw [if_neg (by decide), mOut_prt h0 h1 (by omega) ht1 ?_, cut_prt ht1 hl]
    show ((d && decide (t0 = l.length)) || (d && decide (t1 = l.length))) = _
    rw [decide_eq_false (show ¬ t0 = l.length by omega), Bool.and_false, Bool.false_or]
  · have c1 : ¬ seenF l + (t0 : Int) < seenF l + (t1 : Int) := by omega
    simp only [if_neg c1, if_neg hc]
    rw [fork_prt h h1 h0 (by omega) ht0, Nat.max_eq_left (by omega)]
    rw [if_neg (by decide), mOut_prt h1 h0 (by omega) ht0 ?_, cut_prt ht0 hl, Nat.min_comm]
    show ((d && decide (t0 = l.length)) || (d && decide (t1 = l.length))) = _
    by_cases he : t0 = l.length
    · rw [decide_eq_true he, Bool.and_true]
      cases d <;> simp
    · rw [decide_eq_false he, decide_eq_false (show ¬ t1 = l.length by omega), Bool.and_false, Bool.or_false]
end Go.Proofs.YtmamodnpghlgcaaDoor
/- The plain laws of the spread: how far a place is behind. -/
set_option linter.unusedSimpArgs false
set_option linter.unusedVariables false
namespace Go.Proofs.YtmamodnpghlgcaaDoor
open Go.RowKit
theorem spreadE_cases (l : List Seg) (ps : List Int) (ds : List (List Int)) : spreadE l ps ds = 0 ∧ spreadBad l ps ds = false ∧ spreadR l ps ds = spreadRows l ps ds ps.length ∨ spreadE l ps ds = 1 ∧ spreadR l ps ds = [] := by
  unfold spreadE spreadR
  cases spreadBad l ps ds with
  | true => exact .inr ⟨rfl, rfl⟩
  | false => exact .inl ⟨rfl, rfl, rfl⟩
/-- A tree is right. -/
structure Tree (l : List Seg) (ps : List Int) (ds : List (List Int)) : Prop where
  st : streamB l = true
  one : 1 ≤ ps.length
  len : ds.length = ps.length
  par : ∀ (k : Nat) (p : Int), 1 ≤ k → ps[k]? = some p → 0 ≤ p ∧ p < k
  dly : ∀ (k : Nat) (d : List Int), 1 ≤ k → ds[k]? = some d → d.length = l.length ∧ ∀ x ∈ d, 0 ≤ x ∧ x ≤ 1099511627776
theorem tree_of {l : List Seg} {ps : List Int} {ds : List (List Int)} (h : spreadBad l ps ds = false) : Tree l ps ds := by
  rw [spreadBad_eq, Bool.or_eq_false_iff] at h
  obtain ⟨h1, h2⟩ := h
  unfold treeBad at h2
  rw [Bool.or_eq_false_iff, List.any_eq_false] at h2
  obtain ⟨h3, h4⟩ := h2
  simp only [treeT, Bool.or_eq_false_iff, decide_eq_false_iff_not, Nat.not_lt, ne_eq, Decidable.not_not] at h3
  have hb : ∀ (k : Nat) (p : Int) (d : List Int), 1 ≤ k → ps[k]? = some p → ds[k]? = some d → (0 ≤ p ∧ p < k) ∧ d.length = l.length ∧ ∀ x ∈ d, 0 ≤ x ∧ x ≤ 1099511627776 := by
    intro k p d hk hp hd
    have h5 := h4 k (List.mem_range.2 (List.getElem?_eq_some_iff.1 hp).1)
    simp only [badK, hp, hd, Bool.and_eq_true, decide_eq_true_eq, Bool.or_eq_true, not_and, not_or, Int.not_lt, Int.not_le, ne_eq, Decidable.not_not, List.any_eq_true, not_exists] at h5
    obtain ⟨h6, h7, h8, h9⟩ := h5 hk
    refine ⟨⟨h6, h7⟩, h8, fun x hx => ?_⟩
    have := h9 x hx
    simp only [bigD, Bool.or_eq_true, decide_eq_true_eq, not_or, Int.not_lt] at this
    exact this
  refine ⟨by simpa using h1, by omega, by omega, fun k p hk hp => ?_, fun k d hk hd => ?_⟩
  · have hi := (List.getElem?_eq_some_iff.1 hp).1
    exact (hb k p _ hk hp (List.getElem?_eq_getElem (show k < ds.length by omega))).1
  · have hi := (List.getElem?_eq_some_iff.1 hd).1
    exact (hb k _ d hk (List.getElem?_eq_getElem (show k < ps.length by omega)) hd).2
/-- How far each of the first k places is from the source. -/
def deps (ps : List Int) : Nat → List Int
  | 0 => []
  | k + 1 => deps ps k ++ [if k = 0 then 0 else (deps ps k).getD (ps.getD k 0).toNat 0 + 1]
theorem deps_length (ps : List Int) : ∀ k, (deps ps k).length = k
  | 0 => rfl
  | k + 1 => by simp [deps, deps_length ps k]
theorem deps_bd (ps : List Int) : ∀ k, ∀ x ∈ deps ps k, 0 ≤ x ∧ x ≤ k
  | 0, x, hx => by cases hx
  | k + 1, x, hx => by
    simp only [deps, List.mem_append, List.mem_singleton] at hx
    rcases hx with hx | rfl
    · have := deps_bd ps k x hx; omega
    · split
      · omega
      · have hg : 0 ≤ (deps ps k).getD (ps.getD k 0).toNat 0 ∧ (deps ps k).getD (ps.getD k 0).toNat 0 ≤ k := by
          rw [List.getD_eq_getElem?_getD]
          cases h : (deps ps k)[(ps.getD k 0).toNat]? with
          | none => simp
          | some y => exact deps_bd ps k y (List.mem_of_getElem? h)
        omega
theorem runMax_ge (f : Nat → Int) : ∀ i, f i ≤ runMax f i
  | 0 => Int.le_refl _
  | i + 1 => by simp only [runMax]; omega
theorem runMax_mono (f : Nat → Int) {i j : Nat} (h : i ≤ j) : runMax f i ≤ runMax f j := by
  induction j with
  | zero => rw [Nat.le_zero.1 h]; exact Int.le_refl _
  | succ j ih =>
    by_cases hij : i = j + 1
    · rw [hij]; exact Int.le_refl _
    · have := ih (by omega)
      simp only [runMax]
      omega
theorem runMax_le {f : Nat → Int} {B : Int} : ∀ {i : Nat}, (∀ j, j ≤ i → f j ≤ B) → runMax f i ≤ B
  | 0, h => h 0 (Nat.le_refl _)
  | i + 1, h => by
    have h1 := h (i + 1) (Nat.le_refl _)
    have h2 := runMax_le (i := i) fun j hj => h j (by omega)
    simp only [runMax]
    omega
theorem finA_at {l : List Seg} {i : Nat} (h : i < l.length) : finA l i = l[i].fin := by
  unfold finA
  rw [List.getElem?_eq_getElem h]
theorem fin_succ {l : List Seg} (h : streamB l = true) {i : Nat} (hi : i + 1 < l.length) : finA l (i + 1) = finA l i + l[i + 1].len := by
  rw [finA_at hi, finA_at (by omega)]
  have := (stream_step h hi).2
  simp only [Seg.fin] at this ⊢
  omega
theorem fin_mono {l : List Seg} (h : streamB l = true) {i j : Nat} (hij : i ≤ j) (hj : j < l.length) : finA l i ≤ finA l j := by
  induction j with
  | zero => rw [Nat.le_zero.1 hij]; exact Int.le_refl _
  | succ j ih =>
    by_cases h1 : i = j + 1
    · rw [h1]; exact Int.le_refl _
    · have h2 := ih (by omega) (by omega)
      have h3 := fin_succ h hj
      have h4 := right_bd (stream_right h l[j + 1] (List.getElem_mem _))
      omega
theorem rows_get {l : List Seg} {ps : List Int} {ds : List (List Int)} {k : Nat} : ∀ {m : Nat}, k < m → (spreadRows l ps ds m)[k]? = some (rowOf (if k = 0 then finA l else delayA (spreadRows l ps ds k) ps ds k) l.length)
  | m + 1, h => by
    have hl := spreadRows_length l ps ds m
    simp only [spreadRows]
    by_cases hk : k < m
    · rw [List.getElem?_append_left (by omega)]
      exact rows_get hk
    · have : k = m := by omega
      subst this
      rw [List.getElem?_append_right (by omega), hl]
      simp
theorem deps_get {ps : List Int} {k : Nat} : ∀ {m : Nat}, k < m → (deps ps m)[k]? = some (if k = 0 then 0 else (deps ps k).getD (ps.getD k 0).toNat 0 + 1)
  | m + 1, h => by
    have hl := deps_length ps m
    simp only [deps]
    by_cases hk : k < m
    · rw [List.getElem?_append_left (by omega)]
      exact deps_get hk
    · have : k = m := by omega
      subst this
      rw [List.getElem?_append_right (by omega), hl]
      simp
/-- The depth of a place. -/
def dep (ps : List Int) (k : Nat) : Int := if k = 0 then 0 else (deps ps k).getD (ps.getD k 0).toNat 0 + 1
theorem dep_par {ps : List Int} {k : Nat} {p : Nat} (hk : k ≠ 0) (hp : ps[k]? = some (p : Int)) (hpk : p < k) : dep ps k = dep ps p + 1 := by
  unfold dep
  rw [if_neg hk]
  have e1 : (ps.getD k 0).toNat = p := by
    rw [List.getD_eq_getElem?_getD, hp]
    simp
  rw [e1, List.getD_eq_getElem?_getD, deps_get hpk]
  simp
theorem dep_bd (ps : List Int) (k : Nat) : 0 ≤ dep ps k ∧ dep ps k ≤ k := by
  have h := deps_get (ps := ps) (show k < k + 1 by omega)
  have h1 := deps_bd ps (k + 1) _ (List.mem_of_getElem? h)
  by_cases hk : k = 0
  · subst hk; exact ⟨Int.le_refl _, Int.le_refl _⟩
  · have h2 : dep ps k = (deps ps k).getD (ps.getD k 0).toNat 0 + 1 := by unfold dep; rw [if_neg hk]
    rw [if_neg hk] at h1
    have hg : 0 ≤ (deps ps k).getD (ps.getD k 0).toNat 0 ∧ (deps ps k).getD (ps.getD k 0).toNat 0 ≤ k := by
      rw [List.getD_eq_getElem?_getD]
      cases h : (deps ps k)[(ps.getD k 0).toNat]? with
      | none => simp
      | some y => exact deps_bd ps k y (List.mem_of_getElem? h)
    rw [h2]
    refine ⟨by omega, ?_⟩
    cases k with
    | zero => exact absurd rfl hk
    | succ j =>
      rw [List.getD_eq_getElem?_getD] at hg ⊢
      cases h : (deps ps (j + 1))[(ps.getD (j + 1) 0).toNat]? with
      | none => simp; omega
      | some y =>
        rw [h] at hg
        have h5 : ∀ m, ∀ x ∈ deps ps (m + 1), x ≤ m := by
          intro m
          induction m with
          | zero => intro x hx; simp [deps] at hx; omega
          | succ m ih =>
            intro x hx
            rw [deps, List.mem_append, List.mem_singleton] at hx
            rcases hx with hx | rfl
            · have := ih x hx; omega
            · rw [if_neg (by omega), List.getD_eq_getElem?_getD]
              cases h9 : (deps ps (m + 1))[(ps.getD (m + 1) 0).toNat]? with
              | none => simp; omega
              | some z =>
                have := ih z (List.mem_of_getElem? h9)
                simp only [Option.getD_some]
                omega
        have := h5 j y (List.mem_of_getElem? h)
        simp only [Option.getD_some]
        omega
/-- No segment arrives before it ends, nor more than the hops later. -/
theorem arrive_bd {l : List Seg} {ps : List Int} {ds : List (List Int)} (ht : Tree l ps ds) {h : Int} (h0 : 0 ≤ h) (hh : ∀ (k : Nat) (d : List Int), 1 ≤ k → ds[k]? = some d → ∀ x ∈ d, x ≤ h) :
    ∀ (n k : Nat), k < n → n ≤ ps.length → ∀ i, i < l.length → finA l i ≤ runMax (if k = 0 then finA l else delayA (spreadRows l ps ds k) ps ds k) i ∧ runMax (if k = 0 then finA l else delayA (spreadRows l ps ds k) ps ds k) i ≤ finA l i + dep ps k * h
  | 0, k, hk, _, i, hi => by omega
  | n + 1, k, hk, hn, i, hi => by
    by_cases hk0 : k = 0
    · subst hk0
      simp only [↓reduceIte]
      refine ⟨runMax_ge _ _, ?_⟩
      rw [show dep ps 0 = 0 from rfl, Int.zero_mul, Int.add_zero]
      exact runMax_le fun j hj => fin_mono ht.st hj hi
    · rw [if_neg hk0]
      have hkl : k < ps.length := by omega
      obtain ⟨hp0, hpk⟩ := ht.par k ps[k] (by omega) (List.getElem?_eq_getElem hkl)
      obtain ⟨p, hp⟩ : ∃ p : Nat, ps[k] = (p : Int) := ⟨ps[k].toNat, by omega⟩
      have hpk2 : p < k := by omega
      have hkd : k < ds.length := by rw [ht.len]; exact hkl
      obtain ⟨hdl, hdx⟩ := ht.dly k ds[k] (by omega) (List.getElem?_eq_getElem hkd)
      have hd : dep ps k = dep ps p + 1 := dep_par hk0 (by rw [List.getElem?_eq_getElem hkl, hp]) hpk2
      have hval : ∀ j, j < l.length → delayA (spreadRows l ps ds k) ps ds k j = runMax (if p = 0 then finA l else delayA (spreadRows l ps ds p) ps ds p) j + ds[k].getD j 0 := by
        intro j hj
        have e1 : (ps.getD k 0).toNat = p := by
          rw [List.getD_eq_getElem?_getD, List.getElem?_eq_getElem hkl, Option.getD_some, hp]
          exact Int.toNat_natCast p
        have e2 : (spreadRows l ps ds k).getD p [] = rowOf (if p = 0 then finA l else delayA (spreadRows l ps ds p) ps ds p) l.length := by rw [List.getD_eq_getElem?_getD, rows_get hpk2, Option.getD_some]
        have e3 : ds.getD k [] = ds[k] := by rw [List.getD_eq_getElem?_getD, List.getElem?_eq_getElem hkd, Option.getD_some]
        show ((spreadRows l ps ds k).getD (ps.getD k 0).toNat []).getD j 0 + (ds.getD k []).getD j 0 = _
        rw [e1, e2, e3, List.getD_eq_getElem?_getD, rowOf_get _ hj, Option.getD_some]
      have hdj : ∀ j, j < l.length → 0 ≤ ds[k].getD j 0 ∧ ds[k].getD j 0 ≤ h := by
        intro j hj
        have hm : ds[k].getD j 0 ∈ ds[k] := by
          rw [List.getD_eq_getElem?_getD, List.getElem?_eq_getElem (by omega), Option.getD_some]
          exact List.getElem_mem _
        exact ⟨(hdx _ hm).1, hh k ds[k] (by omega) (List.getElem?_eq_getElem hkd) _ hm⟩
      have hprev := fun j (hj : j < l.length) => arrive_bd ht h0 hh n p (by omega) (by omega) j hj
      have hmul : dep ps k * h = dep ps p * h + h := by rw [hd, Int.add_mul, Int.one_mul]
      constructor
      · have h1 := runMax_ge (delayA (spreadRows l ps ds k) ps ds k) i
        rw [hval i hi] at h1
        have h2 := (hprev i hi).1
        have h3 := (hdj i hi).1
        omega
      · refine runMax_le fun j hj => ?_
        rw [hval j (by omega)]
        have h2 := (hprev j (by omega)).2
        have h3 := (hdj j (by omega)).2
        have h4 := fin_mono ht.st hj hi
        omega
/-- What a place's row is. -/
structure RowBd (l : List Seg) (row : List Int) (D : Int) : Prop where
  len : row.length = l.length
  mono : ∀ (i j : Nat) (x y : Int), i ≤ j → row[i]? = some x → row[j]? = some y → x ≤ y
  lo : ∀ (i : Nat) (x : Int), row[i]? = some x → finA l i ≤ x
  hi : ∀ (i : Nat) (x : Int), row[i]? = some x → x ≤ finA l i + D
theorem row_bd {l : List Seg} {ps : List Int} {ds : List (List Int)} (ht : Tree l ps ds) {h : Int} (h0 : 0 ≤ h) (hh : ∀ (k : Nat) (d : List Int), 1 ≤ k → ds[k]? = some d → ∀ x ∈ d, x ≤ h) {k : Nat} {row : List Int} (hr : (spreadRows l ps ds ps.length)[k]? = some row) : RowBd l row (dep ps k * h) := by
  have hk : k < ps.length := by
    have := (List.getElem?_eq_some_iff.1 hr).1
    rw [spreadRows_length] at this
    exact this
  rw [rows_get hk] at hr
  obtain rfl := Option.some.inj hr
  have hg : ∀ (f : Nat → Int) (i : Nat) (x : Int), (rowOf f l.length)[i]? = some x → i < l.length ∧ x = runMax f i := by
    intro f i x hx
    have hi := (List.getElem?_eq_some_iff.1 hx).1
    rw [rowOf_length] at hi
    rw [rowOf_get _ hi] at hx
    exact ⟨hi, (Option.some.inj hx).symm⟩
  refine ⟨rowOf_length _ _, fun i j x y hij hx hy => ?_, fun i x hx => ?_, fun i x hx => ?_⟩
  · obtain ⟨_, rfl⟩ := hg _ _ _ hx
    obtain ⟨_, rfl⟩ := hg _ _ _ hy
    exact runMax_mono _ hij
  · obtain ⟨hi, rfl⟩ := hg _ _ _ hx
    exact (arrive_bd ht h0 hh ps.length k hk (Nat.le_refl _) i hi).1
  · obtain ⟨hi, rfl⟩ := hg _ _ _ hx
    exact (arrive_bd ht h0 hh ps.length k hk (Nat.le_refl _) i hi).2
/-- How many have arrived. -/
theorem seenN_spec {l : List Seg} {row : List Int} {D : Int} (hr : RowBd l row D) (t : Int) : seenN l row t ≤ l.length ∧ (∀ (j : Nat) (x : Int), j < seenN l row t → row[j]? = some x → x ≤ t) ∧ (seenN l row t < l.length → ∃ x, row[seenN l row t]? = some x ∧ t < x) := by
  unfold seenN
  cases hf : row.findIdx? (fun x => decide (t < x)) with
  | none =>
    rw [List.findIdx?_eq_none_iff] at hf
    refine ⟨Nat.le_refl _, fun j x _ hx => ?_, fun h => absurd h (Nat.lt_irrefl _)⟩
    have := hf x (List.mem_of_getElem? hx)
    simpa using this
  | some i =>
    obtain ⟨h1, h2, h3⟩ := List.findIdx?_eq_some_iff_getElem.1 hf
    refine ⟨by rw [← hr.len]; exact Nat.le_of_lt h1, fun j x hj hx => ?_, fun _ => ⟨row[i], List.getElem?_eq_getElem h1, by simpa using h2⟩⟩
    have hj : j < i := hj
    have := h3 j hj
    rw [List.getElem?_eq_getElem (by omega)] at hx
    obtain rfl := Option.some.inj hx
    simpa using this
theorem seen_edge {l : List Seg} {n : Nat} (hn : n ≤ l.length) : (⟨seenF l, l.take n, false⟩ : Pl).edge = if n = 0 then 0 else finA l (n - 1) := by
  unfold Pl.edge
  by_cases h : n = 0
  · subst h; simp
  · rw [if_neg h]
    rw [List.getLast?_eq_getElem?, List.length_take, Nat.min_eq_left hn, List.getElem?_take, if_pos (by omega), List.getElem?_eq_getElem (by omega), finA_at (by omega)]
/-- The law of the lag. -/
theorem lag_law {l : List Seg} {row : List Int} {D t longest : Int} (hst : streamB l = true) (hl : 0 < l.length) (hr : RowBd l row D) (hD : 0 ≤ D) (hlong : ∀ s ∈ l, s.len ≤ longest) (h1 : finA l 0 + D ≤ t) (h2 : t ≤ finA l (l.length - 1)) :
    (seenO l row t).edge ≤ t ∧ t - (longest + D) < (seenO l row t).edge := by
  obtain ⟨hn, hle, hgt⟩ := seenN_spec hr t
  unfold seenO
  rw [seen_edge hn]
  have hg : ∀ i, i < l.length → ∃ x, row[i]? = some x := fun i hi => ⟨row[i]'(by rw [hr.len]; exact hi), List.getElem?_eq_getElem _⟩
  have hn0 : seenN l row t ≠ 0 := by
    intro h0
    obtain ⟨x, hx, hlt⟩ := hgt (by omega)
    rw [h0] at hx
    have := hr.hi 0 x hx
    omega
  rw [if_neg hn0]
  obtain ⟨n, hnn⟩ : ∃ n, seenN l row t = n + 1 := ⟨seenN l row t - 1, by omega⟩
  rw [hnn] at hn hle hgt ⊢
  rw [Nat.add_sub_cancel]
  obtain ⟨x, hx⟩ := hg n (by omega)
  have h3 := hle n x (by omega) hx
  have h4 := hr.lo n x hx
  have hlg : ∀ i (hi : i < l.length), l[i].len ≤ longest := fun i hi => hlong _ (List.getElem_mem hi)
  have hl1 : 1 ≤ longest := by
    have h5 := right_bd (stream_right hst l[0] (List.getElem_mem _))
    have h6 := hlg 0 hl
    omega
  refine ⟨by omega, ?_⟩
  by_cases hlast : n + 1 < l.length
  · obtain ⟨y, hy, hlt⟩ := hgt hlast
    have h5 := hr.hi (n + 1) y hy
    have h6 := fin_succ hst hlast
    have h7 := hlg (n + 1) hlast
    omega
  · have h5 : l.length - 1 = n := by omega
    rw [h5] at h2
    omega
end Go.Proofs.YtmamodnpghlgcaaDoor
/- depths: how far each place is from the source. -/

set_option linter.unusedSimpArgs false
set_option linter.unusedVariables false
set_option maxRecDepth 100000
set_option maxHeartbeats 4000000
namespace Go.Proofs.YtmamodnpghlgcaaDoor
open Go.RowKit
theorem zrep_zero (n : Nat) : zrep [Value.int .i64 0] n = ints (List.replicate n 0) := by
  induction n with
  | zero => rfl
  | succ n ih => simp only [zrep, ih, List.replicate_succ]; rfl
/-- The depths of the first k of n places. -/
def depZ (ps : List Int) (k n : Nat) : List Int := deps ps k ++ List.replicate (n - k) 0
theorem depZ_one {ps : List Int} {n : Nat} (h : 1 ≤ n) : depZ ps 1 n = List.replicate n 0 := by
  obtain ⟨m, rfl⟩ : ∃ m, n = m + 1 := ⟨n - 1, by omega⟩
  simp only [depZ, deps, List.nil_append, ↓reduceIte, Nat.add_sub_cancel, List.replicate_succ, List.cons_append]
theorem depZ_length {ps : List Int} {k n : Nat} (h : k ≤ n) : (depZ ps k n).length = n := by
  simp only [depZ, List.length_append, deps_length, List.length_replicate]
  omega
theorem depZ_get {ps : List Int} {k n p : Nat} (h : p < k) : (depZ ps k n)[p]? = some (dep ps p) := by
  unfold depZ
  rw [List.getElem?_append_left (by rw [deps_length]; exact h), deps_get h]
  rfl
theorem depZ_set {ps : List Int} {k n p : Nat} (hk : k ≠ 0) (hp : ps[k]? = some (p : Int)) (hpk : p < k) (hn : k < n) : (depZ ps k n).set k (dep ps p + 1) = depZ ps (k + 1) n := by
  have h1 := dep_par hk hp hpk
  have h2 : n - k = (n - (k + 1)) + 1 := by omega
  unfold depZ
  rw [List.set_append_right _ _ (by rw [deps_length]; exact Nat.le_refl _), deps_length, Nat.sub_self, h2, List.replicate_succ, List.set_cons_zero, ← h1]
  simp only [deps, List.append_assoc, List.singleton_append]
  rfl
theorem depZ_all (ps : List Int) (n : Nat) : depZ ps n n = deps ps n := by simp [depZ]
theorem ints_get {l : List Int} {i : Nat} {x : Int} (h : l[i]? = some x) : (ints l)[i]? = some (.int .i64 x) := by
  unfold ints
  rw [List.getElem?_map, h]
  rfl
theorem depths_fn (ps : List Int) (vP : Value) (F : Fact) (hP : isInts ps F vP) (hn : 1 ≤ ps.length) (hn2 : ps.length ≤ 1000) (hpar : ∀ (k : Nat) (p : Int), 1 ≤ k → ps[k]? = some p → 0 ≤ p ∧ p < k) : Fn Tryd.prog 18 [vP] F fun v G => isInts (deps ps ps.length) G v := by
  obtain ⟨aP, cP, rfl, hcP, hFP⟩ := hP
  refine Fn.of_body Tryd.func18 rfl (Nat.le_of_ble_eq_true rfl) (Nat.le_of_ble_eq_true rfl) (by kernel_rfl) ?_
  refine SC.seqN [0] [.l 7] fun K1 hK1 => SC.region ?_
  simp -implicitDefEqProofs only [push_cast, ↓reduceIte, Nat.reduceEqDiff, Nat.reduceAdd, Nat.reduceMul, Nat.reduceSub, Nat.reduceLeDiff, Nat.reduceLT, reduceCtorEq]
  refine hK1 _ ?_
  clear hK1
  refine SC.seqN [0, 3] [.l 7] fun K2 hK2 => SC.region ?_
  simp -implicitDefEqProofs only [push_cast, ↓reduceIte, Nat.reduceEqDiff, Nat.reduceAdd, Nat.reduceMul, Nat.reduceSub, Nat.reduceLeDiff, Nat.reduceLT, reduceCtorEq]
  refine ⟨⟨by omega, by rw [mxl]; omega, by omega⟩, ?_⟩
  rw [Int.toNat_natCast]
  refine hK2 _ ?_
  clear hK2
  refine SC.seqN [3] [.l 7] fun K3 hK3 => ?_
  refine SC.seqN [0, 3, 4] [.l 7] fun K4 hK4 => SC.region ?_
  simp -implicitDefEqProofs only [push_cast, ↓reduceIte, Nat.reduceEqDiff, Nat.reduceAdd, Nat.reduceMul, Nat.reduceSub, Nat.reduceLeDiff, Nat.reduceLT, reduceCtorEq]
  refine hK4 _ ?_
  clear hK4
  refine SC.block ?_
  refine SC.loop (fun k : Nat => ⟨[(0, .v (.slice aP ps.length cP)), (3, .row (.l 7)), (4, .v (.int .i64 k))], [(.l 7, .row 3 1 ps.length (ints (depZ ps k ps.length)))], F⟩) (fun k => 1 ≤ k ∧ k ≤ ps.length) (fun k => ps.length - k) 1 (by rw [depZ_one hn, ← zrep_zero]; exact Le.refl _) ⟨Nat.le_refl _, hn⟩ fun k hk => ?_
  obtain ⟨hk1, hk2⟩ := hk
  refine SC.seqN [0, 3, 4] [.l 7] fun K5 hK5 => ?_
  refine SC.seqN [0, 3, 4, 11] [.l 7] fun K6 hK6 => SC.region ?_
  simp -implicitDefEqProofs only [push_cast, ↓reduceIte, Nat.reduceEqDiff, Nat.reduceAdd, Nat.reduceMul, Nat.reduceSub, Nat.reduceLeDiff, Nat.reduceLT, reduceCtorEq]
  refine hK6 _ ?_
  clear hK6
  refine SC.cond ?_
  simp -implicitDefEqProofs only [push_cast, ↓reduceIte, Nat.reduceEqDiff, Nat.reduceAdd, Nat.reduceMul, Nat.reduceSub, Nat.reduceLeDiff, Nat.reduceLT, reduceCtorEq]
  refine ⟨fun h1 => ?_, fun h1 => ?_⟩
  · skip
    have hkl : k < ps.length := by omega
    have hgk : ps[k]? = some ps[k] := List.getElem?_eq_getElem hkl
    obtain ⟨hp0, hpk⟩ := hpar k _ hk1 hgk
    obtain ⟨p, hp⟩ : ∃ p : Nat, ps[k] = (p : Int) := ⟨ps[k].toNat, by omega⟩
    rw [hp] at hgk hp0 hpk
    have hpl : p < k := by omega
    refine SC.skip ?_
    simp -implicitDefEqProofs only [push_cast, ↓reduceIte, Nat.reduceEqDiff, Nat.reduceAdd, Nat.reduceMul, Nat.reduceSub, Nat.reduceLeDiff, Nat.reduceLT, reduceCtorEq]
    refine hK5 _ ?_
    clear hK5
    refine SC.seqN [0, 3, 4] [.l 7] fun K7 hK7 => ?_
    refine SC.block ?_
    refine SC.region ?_
    simp -implicitDefEqProofs only [push_cast, ↓reduceIte, Nat.reduceEqDiff, Nat.reduceAdd, Nat.reduceMul, Nat.reduceSub, Nat.reduceLeDiff, Nat.reduceLT, reduceCtorEq]
    refine ⟨by omega, rowF_some hFP (ints_ne (by omega)), loadInt k hFP hgk rfl ?_⟩
    simp -implicitDefEqProofs only [push_cast, ↓reduceIte, Nat.reduceEqDiff, Nat.reduceAdd, Nat.reduceMul, Nat.reduceSub, Nat.reduceLeDiff, Nat.reduceLT, reduceCtorEq]
    refine ⟨by omega, ?_⟩
    rw [idx_vals, Int.toNat_natCast, Nat.mul_one, ints_get (depZ_get hpl)]
    simp -implicitDefEqProofs only [push_cast, ↓reduceIte, Nat.reduceEqDiff, Nat.reduceAdd, Nat.reduceMul, Nat.reduceSub, Nat.reduceLeDiff, Nat.reduceLT, reduceCtorEq]
    have hdb := dep_bd ps p
    refine ⟨by omega, by omega, by rw [ints_length, depZ_length (by omega), Int.toNat_natCast]; omega, ?_⟩
    rw [Int.toNat_natCast, Nat.mul_one, ints_set, depZ_set (by omega) hgk hpl hkl]
    refine hK7 _ ?_
    clear hK7
    refine SC.region ?_
    simp -implicitDefEqProofs only [push_cast, ↓reduceIte, Nat.reduceEqDiff, Nat.reduceAdd, Nat.reduceMul, Nat.reduceSub, Nat.reduceLeDiff, Nat.reduceLT, reduceCtorEq]
    refine ⟨by omega, k + 1, by omega, by omega, Le.trans (Le.norm _ [0, 3, 4] [.l 7]) ?_⟩
    simp -implicitDefEqProofs only [push_cast, ↓reduceIte, Nat.reduceEqDiff, Nat.reduceAdd, Nat.reduceMul, Nat.reduceSub, Nat.reduceLeDiff, Nat.reduceLT, reduceCtorEq]
    exact Le.refl _
  · skip
    refine SC.exit ?_
    simp -implicitDefEqProofs only [push_cast, ↓reduceIte, Nat.reduceEqDiff, Nat.reduceAdd, Nat.reduceMul, Nat.reduceSub, Nat.reduceLeDiff, Nat.reduceLT, reduceCtorEq]
    refine hK3 _ ?_
    clear hK3
    obtain rfl : k = ps.length := by omega
    refine SC.frzRow (k := .l 7) rfl (by rw [ints_length, depZ_length (by omega)]; omega) fun aN bN cN hcN => ?_
    simp -implicitDefEqProofs only [push_cast, ↓reduceIte, Nat.reduceEqDiff, Nat.reduceAdd, Nat.reduceMul, Nat.reduceSub, Nat.reduceLeDiff, Nat.reduceLT, reduceCtorEq]
    refine SC.seqN [2] [.l 7] fun K8 hK8 => SC.region ?_
    simp -implicitDefEqProofs only [push_cast, ↓reduceIte, Nat.reduceEqDiff, Nat.reduceAdd, Nat.reduceMul, Nat.reduceSub, Nat.reduceLeDiff, Nat.reduceLT, reduceCtorEq]
    refine hK8 _ ?_
    clear hK8
    refine SC.ret ?_
    simp -implicitDefEqProofs only [push_cast, ↓reduceIte, Nat.reduceEqDiff, Nat.reduceAdd, Nat.reduceMul, Nat.reduceSub, Nat.reduceLeDiff, Nat.reduceLT, reduceCtorEq, Tryd.f18]
    rw [depZ_all]
    exact ⟨aN, cN, by rw [deps_length], by rw [deps_length]; omega, Fact.to_right (Fact.to_refl _)⟩
end Go.Proofs.YtmamodnpghlgcaaDoor
/- The law of the lag. -/

set_option linter.unusedSimpArgs false
set_option linter.unusedVariables false
set_option maxRecDepth 100000
set_option maxHeartbeats 4000000
namespace Go.Proofs.YtmamodnpghlgcaaDoor
open Go.RowKit
structure HopI where
  k : Nat
  h : Int
def hopOk (ps : List Int) (ds : List (List Int)) (x : HopI) : Prop := (1 ≤ x.k ∧ x.k ≤ ps.length) ∧ 0 ≤ x.h ∧ ∀ (j : Nat) (d : List Int), 1 ≤ j → j < x.k → ds[j]? = some d → ∀ y ∈ d, y ≤ x.h
def hop2Ok (d : List Int) (h0 : Int) (x : HopI) : Prop := x.k ≤ d.length ∧ h0 ≤ x.h ∧ ∀ (j : Nat) (y : Int), j < x.k → d[j]? = some y → y ≤ x.h
def longOk (l : List Seg) (x : HopI) : Prop := x.k ≤ l.length ∧ (0 ≤ x.h ∧ x.h ≤ 60000) ∧ ∀ (j : Nat) (s : Seg), j < x.k → l[j]? = some s → s.len ≤ x.h
theorem cut_small {p : Pl} (h : p.l.length ≤ 100) : p.cut 100 = p := by
  unfold Pl.cut
  rw [show ((p.l.length : Int) - 100).toNat = 0 by omega]
  simp
theorem lagLaw_fn (l : List Seg) (ps : List Int) (ds : List (List Int)) (vP vD : Value) (t : Int) (F : Fact) (a : Option Addr) (c : Nat) (hF : F.to libF) (hFl : F.to (rowF a (segsC l))) (hc : l.length ≤ c) (hP : isInts ps F vP) (hD : isIntss ds F vD) (hdl : ds.length ≤ maxLen) : Fn Tryd.prog 5 [.slice a l.length c, vP, vD, .int .i64 t] F fun v _ => v = .bool true := by
  refine Fn.of_body Tryd.func5 rfl (Nat.le_of_ble_eq_true rfl) (Nat.le_of_ble_eq_true rfl) (by kernel_rfl) ?_
  refine SC.seqN [0, 1, 2, 3] [] fun K1 hK1 => SC.region ?_
  simp -implicitDefEqProofs only [push_cast, ↓reduceIte, Nat.reduceEqDiff, Nat.reduceAdd, Nat.reduceMul, Nat.reduceSub, Nat.reduceLeDiff, Nat.reduceLT, reduceCtorEq]
  refine hK1 _ ?_
  clear hK1
  refine SC.seqN [0, 1, 2, 3] [] fun K2 hK2 => ?_
  refine SC.seqN [0, 1, 2, 3, 30] [] fun K3 hK3 => SC.region ?_
  simp -implicitDefEqProofs only [push_cast, ↓reduceIte, Nat.reduceEqDiff, Nat.reduceAdd, Nat.reduceMul, Nat.reduceSub, Nat.reduceLeDiff, Nat.reduceLT, reduceCtorEq]
  suffices key3 : ∀ q, (q = false → smallB l ps ds = true ∧ 0 < l.length) → K3 ⟨[(0, .v (.slice a l.length c)), (1, .v vP), (2, .v vD), (3, .v (.int .i64 t)), (30, .v (.bool q))], [], F⟩ by
    clear hK2 hK3
    refine callL_fn0 (small_fn l ps ds vP vD F a c hP hD hdl) rfl (fun _ h => h) fun v G hv => ?_
    subst hv
    simp -implicitDefEqProofs only [push_cast, ↓reduceIte, Nat.reduceEqDiff, Nat.reduceAdd, Nat.reduceMul, Nat.reduceSub, Nat.reduceLeDiff, Nat.reduceLT, reduceCtorEq]
    refine ⟨fun hs => ?_, fun hs => ?_⟩
    all_goals first
      | (exact key3 _ fun h => by cases h)
      | (exact key3 _ fun h => ⟨by simpa using hs, by have := of_decide_eq_false h; omega⟩)
  intro q hq
  refine hK3 _ ?_
  clear hK3
  refine SC.cond ?_
  simp -implicitDefEqProofs only [push_cast, ↓reduceIte, Nat.reduceEqDiff, Nat.reduceAdd, Nat.reduceMul, Nat.reduceSub, Nat.reduceLeDiff, Nat.reduceLT, reduceCtorEq]
  refine ⟨fun h1 => ?_, fun h1 => ?_⟩
  · skip
    refine SC.seqN [8] [] fun K4 hK4 => SC.region ?_
    simp -implicitDefEqProofs only [push_cast, ↓reduceIte, Nat.reduceEqDiff, Nat.reduceAdd, Nat.reduceMul, Nat.reduceSub, Nat.reduceLeDiff, Nat.reduceLT, reduceCtorEq]
    refine callL_fn0 (sanity_fn F hF) rfl (fun _ h => h) fun v G hv => ?_
    subst hv
    simp -implicitDefEqProofs only [push_cast, ↓reduceIte, Nat.reduceEqDiff, Nat.reduceAdd, Nat.reduceMul, Nat.reduceSub, Nat.reduceLeDiff, Nat.reduceLT, reduceCtorEq]
    refine hK4 _ ?_
    clear hK4
    refine SC.ret ?_
    simp -implicitDefEqProofs only [push_cast, ↓reduceIte, Nat.reduceEqDiff, Nat.reduceAdd, Nat.reduceMul, Nat.reduceSub, Nat.reduceLeDiff, Nat.reduceLT, reduceCtorEq, Tryd.f5]
  · skip
    obtain ⟨hsm, hl0⟩ := hq h1
    simp only [smallB, Bool.and_eq_true, decide_eq_true_eq, List.all_eq_true] at hsm
    obtain ⟨hd60, hl60, hp12, hd12⟩ := hsm
    refine SC.skip ?_
    simp -implicitDefEqProofs only [push_cast, ↓reduceIte, Nat.reduceEqDiff, Nat.reduceAdd, Nat.reduceMul, Nat.reduceSub, Nat.reduceLeDiff, Nat.reduceLT, reduceCtorEq]
    refine hK2 _ ?_
    clear hK2
    refine SC.seqN [0, 1, 2, 3, 9, 10] [] fun K5 hK5 => SC.region ?_
    simp -implicitDefEqProofs only [push_cast, ↓reduceIte, Nat.reduceEqDiff, Nat.reduceAdd, Nat.reduceMul, Nat.reduceSub, Nat.reduceLeDiff, Nat.reduceLT, reduceCtorEq]
    suffices key5 : ∀ (ov : Value) (F2 : Fact), F2.to F → isIntss (spreadR l ps ds) F2 ov → K5 ⟨[(0, .v (.slice a l.length c)), (1, .v vP), (2, .v vD), (3, .v (.int .i64 t)), (9, .v ov), (10, .v (.int .i64 (spreadE l ps ds)))], [], F2⟩ by
      clear hK5
      refine callL_fn (spread_fn l ps ds _ vP vD F a c rfl hc hFl hP hD (by omega) (by omega) (by omega) (fun d hd => Nat.le_trans (hd60 d hd) (by decide))) rfl (fun _ h => h) ?_
      rintro v G ⟨ov, rfl, hov⟩
      simp -implicitDefEqProofs only [push_cast, ↓reduceIte, Nat.reduceEqDiff, Nat.reduceAdd, Nat.reduceMul, Nat.reduceSub, Nat.reduceLeDiff, Nat.reduceLT, reduceCtorEq]
      exact key5 ov _ (Fact.to_left (Fact.to_refl _)) (hov.to (Fact.to_right (Fact.to_refl _)))
    intro ov F2 hF2 hov
    have hl2 := Fact.to_trans hF2 hF
    obtain ⟨aO, cO, aaO, ccO, rfl, hcO, hFO, hRO⟩ := hov
    refine hK5 _ ?_
    clear hK5
    refine SC.seqN [0, 1, 2, 3, 9] [] fun K6 hK6 => ?_
    refine SC.seqN [0, 1, 2, 3, 9, 40] [] fun K7 hK7 => SC.region ?_
    simp -implicitDefEqProofs only [push_cast, ↓reduceIte, Nat.reduceEqDiff, Nat.reduceAdd, Nat.reduceMul, Nat.reduceSub, Nat.reduceLeDiff, Nat.reduceLT, reduceCtorEq]
    refine hK7 _ ?_
    clear hK7
    refine SC.cond ?_
    simp -implicitDefEqProofs only [push_cast, ↓reduceIte, Nat.reduceEqDiff, Nat.reduceAdd, Nat.reduceMul, Nat.reduceSub, Nat.reduceLeDiff, Nat.reduceLT, reduceCtorEq]
    refine ⟨fun h2 => ?_, fun h2 => ?_⟩
    · skip
      refine SC.seqN [8] [] fun K8 hK8 => SC.region ?_
      simp -implicitDefEqProofs only [push_cast, ↓reduceIte, Nat.reduceEqDiff, Nat.reduceAdd, Nat.reduceMul, Nat.reduceSub, Nat.reduceLeDiff, Nat.reduceLT, reduceCtorEq]
      refine callL_fn0 (sanity_fn F2 hl2) rfl (fun _ h => h) fun v G hv => ?_
      subst hv
      simp -implicitDefEqProofs only [push_cast, ↓reduceIte, Nat.reduceEqDiff, Nat.reduceAdd, Nat.reduceMul, Nat.reduceSub, Nat.reduceLeDiff, Nat.reduceLT, reduceCtorEq]
      have h9 : spreadR l ps ds = [] := by
        rcases spreadE_cases l ps ds with ⟨h8, _⟩ | ⟨_, h9⟩
        · exact absurd h8 (by simpa using h2)
        · exact h9
      rw [h9]
      simp -implicitDefEqProofs only [push_cast, ↓reduceIte, Nat.reduceEqDiff, Nat.reduceAdd, Nat.reduceMul, Nat.reduceSub, Nat.reduceLeDiff, Nat.reduceLT, reduceCtorEq, List.length_nil, Int.reduceToNat, Int.reduceAdd, Int.reduceLT, Int.reduceLE, Nat.reduceMul, Nat.reduceAdd, Nat.zero_mul, Nat.one_mul, Nat.mul_one, List.drop_zero, List.drop_succ_cons, List.take_zero, List.take_succ_cons, Int.toNat_zero, Int.toNat_one, and_self, true_and, Int.cast_ofNat_Int, Int.natCast_one, Int.zero_add, Nat.le_refl, Nat.reduceLeDiff, Nat.reduceLT, Int.ofNat_eq_natCast, Int.natCast_zero, Int.reduceMul, Int.reduceSub, decide_true, decide_false, SV.q_true, SV.q_false]
      refine hK8 _ ?_
      clear hK8
      refine SC.ret ?_
      simp -implicitDefEqProofs only [push_cast, ↓reduceIte, Nat.reduceEqDiff, Nat.reduceAdd, Nat.reduceMul, Nat.reduceSub, Nat.reduceLeDiff, Nat.reduceLT, reduceCtorEq, Tryd.f5]
    · skip
      have hE0 : spreadE l ps ds = 0 := by simpa using h2
      obtain ⟨hbad, hrows⟩ : spreadBad l ps ds = false ∧ spreadR l ps ds = spreadRows l ps ds ps.length := by
        rcases spreadE_cases l ps ds with ⟨_, hbad, hrows⟩ | ⟨h9, _⟩
        · exact ⟨hbad, hrows⟩
        · rw [hE0] at h9; exact absurd h9 (by decide)
      have hT := tree_of hbad
      obtain ⟨aP, cP, rfl, hcP, hFP⟩ := hP
      obtain ⟨aD, cD, aaD, ccD, rfl, hcD, hFD, hRD⟩ := hD
      have hlen := spreadRows_length l ps ds ps.length
      have hFP2 := Fact.to_trans hF2 hFP
      have hFD2 := Fact.to_trans hF2 hFD
      have hRD2 := hRD.to hF2
      have hFl2 := Fact.to_trans hF2 hFl
      clear hFP hFD hRD
      rw [hrows] at hcO hFO hRO ⊢
      rw [hlen] at hcO ⊢
      refine SC.skip ?_
      simp -implicitDefEqProofs only [push_cast, ↓reduceIte, Nat.reduceEqDiff, Nat.reduceAdd, Nat.reduceMul, Nat.reduceSub, Nat.reduceLeDiff, Nat.reduceLT, reduceCtorEq]
      refine hK6 _ ?_
      clear hK6
      refine SC.seqN [0, 1, 2, 3, 9] [] fun K9 hK9 => ?_
      refine SC.seqN [0, 1, 2, 3, 9, 51] [] fun K10 hK10 => SC.region ?_
      simp -implicitDefEqProofs only [push_cast, ↓reduceIte, Nat.reduceEqDiff, Nat.reduceAdd, Nat.reduceMul, Nat.reduceSub, Nat.reduceLeDiff, Nat.reduceLT, reduceCtorEq, decide_true, decide_false, SV.q_true, SV.q_false]
      refine hK10 _ ?_
      clear hK10
      refine SC.cond ?_
      simp -implicitDefEqProofs only [push_cast, ↓reduceIte, Nat.reduceEqDiff, Nat.reduceAdd, Nat.reduceMul, Nat.reduceSub, Nat.reduceLeDiff, Nat.reduceLT, reduceCtorEq]
      refine SC.skip ?_
      simp -implicitDefEqProofs only [push_cast, ↓reduceIte, Nat.reduceEqDiff, Nat.reduceAdd, Nat.reduceMul, Nat.reduceSub, Nat.reduceLeDiff, Nat.reduceLT, reduceCtorEq]
      refine hK9 _ ?_
      clear hK9
      refine SC.seqN [0, 1, 2, 3, 9, 11, 12] [] fun K11 hK11 => SC.region ?_
      simp -implicitDefEqProofs only [push_cast, ↓reduceIte, Nat.reduceEqDiff, Nat.reduceAdd, Nat.reduceMul, Nat.reduceSub, Nat.reduceLeDiff, Nat.reduceLT, reduceCtorEq]
      refine hK11 _ ?_
      clear hK11
      refine SC.seqN [0, 1, 3, 9, 11, 12] [] fun K12 hK12 => ?_
      refine SC.seqN [0, 1, 2, 3, 9, 11, 12, 13] [] fun K13 hK13 => SC.region ?_
      simp -implicitDefEqProofs only [push_cast, ↓reduceIte, Nat.reduceEqDiff, Nat.reduceAdd, Nat.reduceMul, Nat.reduceSub, Nat.reduceLeDiff, Nat.reduceLT, reduceCtorEq]
      refine hK13 _ ?_
      clear hK13
      refine SC.block ?_
      refine SC.loop (fun x : HopI => ⟨[(0, .v (.slice a l.length c)), (1, .v (.slice aP ps.length cP)), (2, .v (.slice aD ds.length cD)), (3, .v (.int .i64 t)), (9, .v (.slice aO ps.length cO)), (11, .v (.int .i64 x.h)), (12, .v (.int .i64 0)), (13, .v (.int .i64 x.k))], [], F2⟩) (hopOk ps ds) (fun x => ps.length - x.k) ⟨1, 0⟩ (Le.refl _) ⟨⟨Nat.le_refl _, hT.one⟩, Int.le_refl _, fun j d h1 (h2 : j < 1) => absurd h2 (by omega)⟩ fun x hx => ?_
      obtain ⟨k, h⟩ := x
      obtain ⟨⟨hk1, hk2⟩, hh0, hhj⟩ := hx
      simp only at hk1 hk2 hh0 hhj ⊢
      refine SC.seqN [0, 1, 2, 3, 9, 11, 12, 13] [] fun K14 hK14 => ?_
      refine SC.seqN [0, 1, 2, 3, 9, 11, 12, 13, 55] [] fun K15 hK15 => SC.region ?_
      simp -implicitDefEqProofs only [push_cast, ↓reduceIte, Nat.reduceEqDiff, Nat.reduceAdd, Nat.reduceMul, Nat.reduceSub, Nat.reduceLeDiff, Nat.reduceLT, reduceCtorEq]
      refine hK15 _ ?_
      clear hK15
      refine SC.cond ?_
      simp -implicitDefEqProofs only [push_cast, ↓reduceIte, Nat.reduceEqDiff, Nat.reduceAdd, Nat.reduceMul, Nat.reduceSub, Nat.reduceLeDiff, Nat.reduceLT, reduceCtorEq]
      refine ⟨fun h4 => ?_, fun h4 => ?_⟩
      · skip
        have hkl : k < ps.length := by omega
        have hkd : k < ds.length := by rw [hT.len]; exact hkl
        have hgd : ds[k]? = some ds[k] := List.getElem?_eq_getElem hkd
        obtain ⟨hcd, hFd⟩ := hRD2 k _ hgd
        obtain ⟨d, hd⟩ : ∃ d, d = ds[k] := ⟨_, rfl⟩
        rw [← hd] at hgd hcd hFd
        have hd6 : d.length ≤ 60 := by rw [hd]; exact hd60 _ (List.getElem_mem _)
        refine SC.skip ?_
        simp -implicitDefEqProofs only [push_cast, ↓reduceIte, Nat.reduceEqDiff, Nat.reduceAdd, Nat.reduceMul, Nat.reduceSub, Nat.reduceLeDiff, Nat.reduceLT, reduceCtorEq]
        refine hK14 _ ?_
        clear hK14
        refine SC.seqN [0, 1, 2, 3, 9, 11, 12, 13] [] fun K16 hK16 => ?_
        refine SC.block ?_
        refine SC.seqN [0, 1, 2, 3, 9, 11, 12, 13, 61, 62, 63] [] fun K17 hK17 => SC.region ?_
        simp -implicitDefEqProofs only [push_cast, ↓reduceIte, Nat.reduceEqDiff, Nat.reduceAdd, Nat.reduceMul, Nat.reduceSub, Nat.reduceLeDiff, Nat.reduceLT, reduceCtorEq]
        refine ⟨by omega, rowF_some hFD2 (slcs_ne (by omega)), loadRow k hFD2 hgd rfl ?_⟩
        simp -implicitDefEqProofs only [push_cast, ↓reduceIte, Nat.reduceEqDiff, Nat.reduceAdd, Nat.reduceMul, Nat.reduceSub, Nat.reduceLeDiff, Nat.reduceLT, reduceCtorEq]
        refine hK17 _ ?_
        clear hK17
        refine SC.block ?_
        refine SC.loop (fun x : HopI => ⟨[(0, .v (.slice a l.length c)), (1, .v (.slice aP ps.length cP)), (2, .v (.slice aD ds.length cD)), (3, .v (.int .i64 t)), (9, .v (.slice aO ps.length cO)), (11, .v (.int .i64 x.h)), (12, .v (.int .i64 0)), (13, .v (.int .i64 k)), (61, .v (.slice (aaD k) d.length (ccD k))), (62, .v (.int .i64 d.length)), (63, .v (.int .i64 x.k))], [], F2⟩) (hop2Ok d h) (fun x => d.length - x.k) ⟨0, h⟩ (Le.refl _) ⟨Nat.zero_le _, Int.le_refl _, fun j y h1 => absurd h1 (Nat.not_lt_zero _)⟩ fun x hx => ?_
        obtain ⟨i, g⟩ := x
        obtain ⟨hi1, hg0, hgj⟩ := hx
        simp only at hi1 hg0 hgj ⊢
        refine SC.seqN [0, 1, 2, 3, 9, 11, 12, 13, 61, 62, 63, 64] [] fun K18 hK18 => SC.region ?_
        simp -implicitDefEqProofs only [push_cast, ↓reduceIte, Nat.reduceEqDiff, Nat.reduceAdd, Nat.reduceMul, Nat.reduceSub, Nat.reduceLeDiff, Nat.reduceLT, reduceCtorEq]
        refine hK18 _ ?_
        clear hK18
        refine SC.seqN [0, 1, 2, 3, 9, 11, 12, 13, 61, 62, 63] [] fun K19 hK19 => ?_
        refine SC.cond ?_
        simp -implicitDefEqProofs only [push_cast, ↓reduceIte, Nat.reduceEqDiff, Nat.reduceAdd, Nat.reduceMul, Nat.reduceSub, Nat.reduceLeDiff, Nat.reduceLT, reduceCtorEq]
        refine ⟨fun h5 => ?_, fun h5 => ?_⟩
        · skip
          have hil : i < d.length := by omega
          have hgi : d[i]? = some d[i] := List.getElem?_eq_getElem hil
          refine SC.skip ?_
          simp -implicitDefEqProofs only [push_cast, ↓reduceIte, Nat.reduceEqDiff, Nat.reduceAdd, Nat.reduceMul, Nat.reduceSub, Nat.reduceLeDiff, Nat.reduceLT, reduceCtorEq]
          refine hK19 _ ?_
          clear hK19
          refine SC.seqN [0, 1, 2, 3, 9, 11, 12, 13, 61, 62, 63] [] fun K20 hK20 => ?_
          refine SC.block ?_
          refine SC.seqN [0, 1, 2, 3, 9, 11, 12, 13, 15, 61, 62, 63] [] fun K21 hK21 => SC.region ?_
          simp -implicitDefEqProofs only [push_cast, ↓reduceIte, Nat.reduceEqDiff, Nat.reduceAdd, Nat.reduceMul, Nat.reduceSub, Nat.reduceLeDiff, Nat.reduceLT, reduceCtorEq]
          refine ⟨by omega, rowF_some hFd (ints_ne (by omega)), loadInt i hFd hgi rfl ?_⟩
          simp -implicitDefEqProofs only [push_cast, ↓reduceIte, Nat.reduceEqDiff, Nat.reduceAdd, Nat.reduceMul, Nat.reduceSub, Nat.reduceLeDiff, Nat.reduceLT, reduceCtorEq]
          refine hK21 _ ?_
          clear hK21
          refine SC.region ?_
          simp -implicitDefEqProofs only [push_cast, ↓reduceIte, Nat.reduceEqDiff, Nat.reduceAdd, Nat.reduceMul, Nat.reduceSub, Nat.reduceLeDiff, Nat.reduceLT, reduceCtorEq]
          refine hK20 _ ?_
          clear hK20
          refine SC.region ?_
          simp -implicitDefEqProofs only [push_cast, ↓reduceIte, Nat.reduceEqDiff, Nat.reduceAdd, Nat.reduceMul, Nat.reduceSub, Nat.reduceLeDiff, Nat.reduceLT, reduceCtorEq]
          refine ⟨by omega, ⟨i + 1, max g d[i]⟩, ⟨by simp only; omega, by simp only; omega, fun j y (hj : j < i + 1) hy => ?_⟩, by simp only; omega, Le.trans (Le.norm _ [0, 1, 2, 3, 9, 11, 12, 13, 61, 62, 63] []) ?_⟩
          · simp only
            by_cases hji : j = i
            · subst hji
              rw [hgi] at hy
              obtain rfl := Option.some.inj hy
              omega
            · have := hgj j y (by omega) hy
              omega
          · simp -implicitDefEqProofs only [push_cast, ↓reduceIte, Nat.reduceEqDiff, Nat.reduceAdd, Nat.reduceMul, Nat.reduceSub, Nat.reduceLeDiff, Nat.reduceLT, reduceCtorEq]
            exact Le.refl _
        · skip
          refine SC.exit ?_
          simp -implicitDefEqProofs only [push_cast, ↓reduceIte, Nat.reduceEqDiff, Nat.reduceAdd, Nat.reduceMul, Nat.reduceSub, Nat.reduceLeDiff, Nat.reduceLT, reduceCtorEq]
          have hid : i = d.length := by omega
          refine hK16 _ ?_
          clear hK16
          refine SC.region ?_
          simp -implicitDefEqProofs only [push_cast, ↓reduceIte, Nat.reduceEqDiff, Nat.reduceAdd, Nat.reduceMul, Nat.reduceSub, Nat.reduceLeDiff, Nat.reduceLT, reduceCtorEq]
          refine ⟨by omega, ⟨k + 1, g⟩, ⟨by simp only; omega, by simp only; omega, fun j e h1 (hj : j < k + 1) he y hy => ?_⟩, by simp only; omega, Le.trans (Le.norm _ [0, 1, 2, 3, 9, 11, 12, 13] []) ?_⟩
          · simp only
            by_cases hjk : j = k
            · subst hjk
              rw [hgd] at he
              obtain rfl := Option.some.inj he
              obtain ⟨n, hn⟩ := List.getElem?_of_mem hy
              have hnl := (List.getElem?_eq_some_iff.1 hn).1
              exact hgj n y (by omega) hn
            · have := hhj j e h1 (by omega) he y hy
              omega
          · simp -implicitDefEqProofs only [push_cast, ↓reduceIte, Nat.reduceEqDiff, Nat.reduceAdd, Nat.reduceMul, Nat.reduceSub, Nat.reduceLeDiff, Nat.reduceLT, reduceCtorEq]
            exact Le.refl _
      · skip
        refine SC.exit ?_
        simp -implicitDefEqProofs only [push_cast, ↓reduceIte, Nat.reduceEqDiff, Nat.reduceAdd, Nat.reduceMul, Nat.reduceSub, Nat.reduceLeDiff, Nat.reduceLT, reduceCtorEq]
        have hkp : k = ps.length := by omega
        have hhop : ∀ (j : Nat) (d : List Int), 1 ≤ j → ds[j]? = some d → ∀ y ∈ d, y ≤ h := fun j d h1 hj y hy => hhj j d h1 (by rw [hkp, ← hT.len]; exact (List.getElem?_eq_some_iff.1 hj).1) hj y hy
        refine hK12 _ ?_
        clear hK12
        refine SC.seqN [0, 1, 3, 9, 11, 12] [] fun K22 hK22 => ?_
        refine SC.seqN [0, 1, 3, 9, 11, 12, 71, 72, 73] [] fun K23 hK23 => SC.region ?_
        simp -implicitDefEqProofs only [push_cast, ↓reduceIte, Nat.reduceEqDiff, Nat.reduceAdd, Nat.reduceMul, Nat.reduceSub, Nat.reduceLeDiff, Nat.reduceLT, reduceCtorEq]
        refine hK23 _ ?_
        clear hK23
        refine SC.block ?_
        refine SC.loop (fun x : HopI => ⟨[(0, .v (.slice a l.length c)), (1, .v (.slice aP ps.length cP)), (3, .v (.int .i64 t)), (9, .v (.slice aO ps.length cO)), (11, .v (.int .i64 h)), (12, .v (.int .i64 x.h)), (71, .v (.slice a l.length c)), (72, .v (.int .i64 l.length)), (73, .v (.int .i64 x.k))], [], F2⟩) (longOk l) (fun x => l.length - x.k) ⟨0, 0⟩ (Le.refl _) ⟨Nat.zero_le _, by decide, fun j y h1 => absurd h1 (Nat.not_lt_zero _)⟩ fun x hx => ?_
        obtain ⟨i, g⟩ := x
        obtain ⟨hi1, hg0, hgj⟩ := hx
        simp only at hi1 hg0 hgj ⊢
        refine SC.seqN [0, 1, 3, 9, 11, 12, 71, 72, 73, 74] [] fun K24 hK24 => SC.region ?_
        simp -implicitDefEqProofs only [push_cast, ↓reduceIte, Nat.reduceEqDiff, Nat.reduceAdd, Nat.reduceMul, Nat.reduceSub, Nat.reduceLeDiff, Nat.reduceLT, reduceCtorEq]
        refine hK24 _ ?_
        clear hK24
        refine SC.seqN [0, 1, 3, 9, 11, 12, 71, 72, 73] [] fun K25 hK25 => ?_
        refine SC.cond ?_
        simp -implicitDefEqProofs only [push_cast, ↓reduceIte, Nat.reduceEqDiff, Nat.reduceAdd, Nat.reduceMul, Nat.reduceSub, Nat.reduceLeDiff, Nat.reduceLT, reduceCtorEq]
        refine ⟨fun h6 => ?_, fun h6 => ?_⟩
        · skip
          have hil : i < l.length := by omega
          have hgi : l[i]? = some l[i] := List.getElem?_eq_getElem hil
          have hri := right_bd (stream_right hT.st l[i] (List.getElem_mem _))
          refine SC.skip ?_
          simp -implicitDefEqProofs only [push_cast, ↓reduceIte, Nat.reduceEqDiff, Nat.reduceAdd, Nat.reduceMul, Nat.reduceSub, Nat.reduceLeDiff, Nat.reduceLT, reduceCtorEq]
          refine hK25 _ ?_
          clear hK25
          refine SC.seqN [0, 1, 3, 9, 11, 12, 71, 72, 73] [] fun K26 hK26 => ?_
          refine SC.block ?_
          refine SC.seqN [0, 1, 3, 9, 11, 12, 17, 71, 72, 73] [.l 17] fun K27 hK27 => SC.region ?_
          simp -implicitDefEqProofs only [push_cast, ↓reduceIte, Nat.reduceEqDiff, Nat.reduceAdd, Nat.reduceMul, Nat.reduceSub, Nat.reduceLeDiff, Nat.reduceLT, reduceCtorEq]
          refine ⟨by omega, rowF_some hFl2 (segsC_ne (by omega)), loadSeg i hFl2 hgi ?_ ?_ ?_⟩
          · omega
          · rfl
          simp -implicitDefEqProofs only [push_cast, ↓reduceIte, Nat.reduceEqDiff, Nat.reduceAdd, Nat.reduceMul, Nat.reduceSub, Nat.reduceLeDiff, Nat.reduceLT, reduceCtorEq, segV, segC]
          refine hK27 _ ?_
          clear hK27
          refine SC.region ?_
          simp -implicitDefEqProofs only [push_cast, ↓reduceIte, Nat.reduceEqDiff, Nat.reduceAdd, Nat.reduceMul, Nat.reduceSub, Nat.reduceLeDiff, Nat.reduceLT, reduceCtorEq]
          refine hK26 _ ?_
          clear hK26
          refine SC.region ?_
          simp -implicitDefEqProofs only [push_cast, ↓reduceIte, Nat.reduceEqDiff, Nat.reduceAdd, Nat.reduceMul, Nat.reduceSub, Nat.reduceLeDiff, Nat.reduceLT, reduceCtorEq]
          refine ⟨by omega, ⟨i + 1, max g l[i].len⟩, ⟨by simp only; omega, by simp only; omega, fun j y (hj : j < i + 1) hy => ?_⟩, by simp only; omega, Le.trans (Le.norm _ [0, 1, 3, 9, 11, 12, 71, 72, 73] []) ?_⟩
          · simp only
            by_cases hji : j = i
            · subst hji
              rw [hgi] at hy
              obtain rfl := Option.some.inj hy
              omega
            · have := hgj j y (by omega) hy
              omega
          · simp -implicitDefEqProofs only [push_cast, ↓reduceIte, Nat.reduceEqDiff, Nat.reduceAdd, Nat.reduceMul, Nat.reduceSub, Nat.reduceLeDiff, Nat.reduceLT, reduceCtorEq]
            exact Le.refl _
        · skip
          refine SC.exit ?_
          simp -implicitDefEqProofs only [push_cast, ↓reduceIte, Nat.reduceEqDiff, Nat.reduceAdd, Nat.reduceMul, Nat.reduceSub, Nat.reduceLeDiff, Nat.reduceLT, reduceCtorEq]
          have hlong : ∀ s ∈ l, s.len ≤ g := fun s hs => by
            obtain ⟨j, hj⟩ := List.getElem?_of_mem hs
            exact hgj j s (by have := (List.getElem?_eq_some_iff.1 hj).1; omega) hj
          refine hK22 _ ?_
          clear hK22
          refine SC.seqN [0, 1, 3, 9, 11, 12] [] fun K28 hK28 => ?_
          refine SC.seqN [0, 1, 3, 9, 11, 12, 83] [] fun K29 hK29 => SC.region ?_
          simp -implicitDefEqProofs only [push_cast, ↓reduceIte, Nat.reduceEqDiff, Nat.reduceAdd, Nat.reduceMul, Nat.reduceSub, Nat.reduceLeDiff, Nat.reduceLT, reduceCtorEq]
          refine hK29 _ ?_
          clear hK29
          refine SC.cond ?_
          simp -implicitDefEqProofs only [push_cast, ↓reduceIte, Nat.reduceEqDiff, Nat.reduceAdd, Nat.reduceMul, Nat.reduceSub, Nat.reduceLeDiff, Nat.reduceLT, reduceCtorEq]
          refine ⟨fun h7 => ?_, fun h7 => ?_⟩
          · skip
            refine SC.seqN [8] [] fun K30 hK30 => SC.region ?_
            simp -implicitDefEqProofs only [push_cast, ↓reduceIte, Nat.reduceEqDiff, Nat.reduceAdd, Nat.reduceMul, Nat.reduceSub, Nat.reduceLeDiff, Nat.reduceLT, reduceCtorEq]
            refine callL_fn0 (sanity_fn F2 hl2) rfl (fun _ h => h) fun v G hv => ?_
            subst hv
            simp -implicitDefEqProofs only [push_cast, ↓reduceIte, Nat.reduceEqDiff, Nat.reduceAdd, Nat.reduceMul, Nat.reduceSub, Nat.reduceLeDiff, Nat.reduceLT, reduceCtorEq]
            refine hK30 _ ?_
            clear hK30
            refine SC.ret ?_
            simp -implicitDefEqProofs only [push_cast, ↓reduceIte, Nat.reduceEqDiff, Nat.reduceAdd, Nat.reduceMul, Nat.reduceSub, Nat.reduceLeDiff, Nat.reduceLT, reduceCtorEq, Tryd.f5]
          · skip
            refine SC.skip ?_
            simp -implicitDefEqProofs only [push_cast, ↓reduceIte, Nat.reduceEqDiff, Nat.reduceAdd, Nat.reduceMul, Nat.reduceSub, Nat.reduceLeDiff, Nat.reduceLT, reduceCtorEq]
            refine hK28 _ ?_
            clear hK28
            refine SC.seqN [] [] fun K31 hK31 => ?_
            refine SC.seqN [0, 3, 9, 11, 12, 86, 87, 88] [] fun K32 hK32 => SC.region ?_
            simp -implicitDefEqProofs only [push_cast, ↓reduceIte, Nat.reduceEqDiff, Nat.reduceAdd, Nat.reduceMul, Nat.reduceSub, Nat.reduceLeDiff, Nat.reduceLT, reduceCtorEq]
            suffices key32 : ∀ (aQ : Option Addr) (cQ : Nat) (F3 : Fact), F3.to F2 → F3.to (rowF aQ (ints (deps ps ps.length))) → ps.length ≤ cQ → K32 ⟨[(0, .v (.slice a l.length c)), (3, .v (.int .i64 t)), (9, .v (.slice aO ps.length cO)), (11, .v (.int .i64 h)), (12, .v (.int .i64 g)), (86, .v (.slice aQ ps.length cQ)), (87, .v (.int .i64 ps.length)), (88, .v (.int .i64 0))], [], F3⟩ by
              clear hK14 hK25 hK31 hK32
              refine callL_fn (depths_fn ps _ F2 ⟨aP, cP, rfl, hcP, hFP2⟩ hT.one (by omega) hT.par) rfl (fun _ h => h) ?_
              rintro v G ⟨aQ, cQ, rfl, hcQ, hFQ⟩
              rw [deps_length] at hcQ ⊢
              simp -implicitDefEqProofs only [push_cast, ↓reduceIte, Nat.reduceEqDiff, Nat.reduceAdd, Nat.reduceMul, Nat.reduceSub, Nat.reduceLeDiff, Nat.reduceLT, reduceCtorEq]
              exact key32 aQ cQ _ (Fact.to_left (Fact.to_refl _)) (Fact.to_right hFQ) hcQ
            intro aQ cQ F3 hF3 hFQ hcQ
            have hl3 := Fact.to_trans hF3 hl2
            have hFl3 := Fact.to_trans hF3 hFl2
            have hFO3 := Fact.to_trans hF3 hFO
            have hRO3 := rowsOk.to hRO hF3
            refine hK32 _ ?_
            clear hK32
            refine SC.block ?_
            refine SC.loop (fun k : Nat => ⟨[(0, .v (.slice a l.length c)), (3, .v (.int .i64 t)), (9, .v (.slice aO ps.length cO)), (11, .v (.int .i64 h)), (12, .v (.int .i64 g)), (86, .v (.slice aQ ps.length cQ)), (87, .v (.int .i64 ps.length)), (88, .v (.int .i64 k))], [], F3⟩) (fun k => k ≤ ps.length) (fun k => ps.length - k) 0 (Le.refl _) (Nat.zero_le _) fun k hk => ?_
            refine SC.seqN [0, 3, 9, 11, 12, 86, 87, 88, 89] [] fun K33 hK33 => SC.region ?_
            simp -implicitDefEqProofs only [push_cast, ↓reduceIte, Nat.reduceEqDiff, Nat.reduceAdd, Nat.reduceMul, Nat.reduceSub, Nat.reduceLeDiff, Nat.reduceLT, reduceCtorEq]
            refine hK33 _ ?_
            clear hK33
            refine SC.seqN [0, 3, 9, 11, 12, 86, 87, 88] [] fun K34 hK34 => ?_
            refine SC.cond ?_
            simp -implicitDefEqProofs only [push_cast, ↓reduceIte, Nat.reduceEqDiff, Nat.reduceAdd, Nat.reduceMul, Nat.reduceSub, Nat.reduceLeDiff, Nat.reduceLT, reduceCtorEq]
            refine ⟨fun h8 => ?_, fun h8 => ?_⟩
            · skip
              have hkl : k < ps.length := by omega
              have hgk : (deps ps ps.length)[k]? = some (dep ps k) := deps_get hkl
              have hgr : (spreadRows l ps ds ps.length)[k]? = some ((spreadRows l ps ds ps.length)[k]'(by omega)) := List.getElem?_eq_getElem _
              obtain ⟨hcr, hFr⟩ := hRO3 k _ hgr
              obtain ⟨row, hrow⟩ : ∃ row, row = (spreadRows l ps ds ps.length)[k]'(by omega) := ⟨_, rfl⟩
              rw [← hrow] at hgr hcr hFr
              have hrb := row_bd hT hh0 hhop hgr
              have hdb := dep_bd ps k
              have hh7 : h ≤ 1073741824 := by omega
              have hD1 : 0 ≤ dep ps k * h := Int.mul_nonneg hdb.1 hh0
              have hD2 : dep ps k * h ≤ 12 * 1073741824 := Int.mul_le_mul (by omega) hh7 hh0 (by decide)
              have hg0' := stream_right hT.st
              have hb0 := right_bd (hg0' l[0] (List.getElem_mem _))
              have hbL := right_bd (hg0' (l[l.length - 1]'(by omega)) (List.getElem_mem _))
              have hgl0 : l[0]? = some l[0] := List.getElem?_eq_getElem hl0
              have hglL : l[l.length - 1]? = some (l[l.length - 1]'(by omega)) := List.getElem?_eq_getElem _
              have hf0 : finA l 0 = l[0].beg + l[0].len := finA_at hl0
              have hfL : finA l (l.length - 1) = (l[l.length - 1]'(by omega)).beg + (l[l.length - 1]'(by omega)).len := finA_at (by omega)
              refine SC.skip ?_
              simp -implicitDefEqProofs only [push_cast, ↓reduceIte, Nat.reduceEqDiff, Nat.reduceAdd, Nat.reduceMul, Nat.reduceSub, Nat.reduceLeDiff, Nat.reduceLT, reduceCtorEq]
              refine hK34 _ ?_
              clear hK34
              refine SC.seqN [0, 3, 9, 11, 12, 86, 87, 88] [] fun K35 hK35 => ?_
              refine SC.block ?_
              refine SC.seqN [0, 3, 9, 11, 12, 18, 19, 86, 87, 88] [] fun K36 hK36 => SC.region ?_
              simp -implicitDefEqProofs only [push_cast, ↓reduceIte, Nat.reduceEqDiff, Nat.reduceAdd, Nat.reduceMul, Nat.reduceSub, Nat.reduceLeDiff, Nat.reduceLT, reduceCtorEq]
              refine ⟨by omega, rowF_some hFQ (ints_ne (by rw [deps_length]; omega)), loadInt k hFQ hgk rfl ?_⟩
              simp -implicitDefEqProofs only [push_cast, ↓reduceIte, Nat.reduceEqDiff, Nat.reduceAdd, Nat.reduceMul, Nat.reduceSub, Nat.reduceLeDiff, Nat.reduceLT, reduceCtorEq]
              refine hK36 _ ?_
              clear hK36
              refine SC.seqN [0, 3, 9, 11, 12, 18, 19, 86, 87, 88] [] fun K37 hK37 => ?_
              refine SC.seqN [0, 3, 9, 11, 12, 18, 19, 86, 87, 88, 126] [] fun K38 hK38 => SC.drawnP (.take 0 (.take 1 (.take 2 (.take 3 (.take 5 (.take 6 (.take 7 (.take 10 (.take 11 (.take 12 (.load 4 (.load 8 (.take 9 (.take 13 (.take 14 (.take 15 (.take 16 (.take 17 (.take 18 (.take 19 (.take 20 (.take 21 (.take 22 (.take 24 (.take 25 (.take 26 (.take 27 (.take 28 (.take 29 (.load 23 (.load 30 (.take 31 (.take 32 (.take 33 (.done))))))))))))))))))))))))))))))))))) (by kernel_rfl) (by kernel_rfl) (fun _ _ h => h) ?_
              simp -implicitDefEqProofs only [push_cast, ↓reduceIte, Nat.reduceEqDiff, Nat.reduceAdd, Nat.reduceMul, Nat.reduceSub, Nat.reduceLeDiff, Nat.reduceLT, reduceCtorEq]
              suffices key38 : ∀ q, (q = false → finA l 0 + dep ps k * h ≤ t ∧ t ≤ finA l (l.length - 1)) → K38 ⟨[(0, .v (.slice a l.length c)), (3, .v (.int .i64 t)), (9, .v (.slice aO ps.length cO)), (11, .v (.int .i64 h)), (12, .v (.int .i64 g)), (18, .v (.int .i64 k)), (19, .v (.int .i64 (dep ps k))), (86, .v (.slice aQ ps.length cQ)), (87, .v (.int .i64 ps.length)), (88, .v (.int .i64 k)), (126, .v (.bool q))], [], F3⟩ by
                clear hK14 hK25 hK31 hK35 hK37 hK38
                repeat' (first
                  | exact key38 _ (fun hq9 => by cases hq9)
                  | exact key38 _ (fun hq9 => ⟨by omega, by have := of_decide_eq_false hq9; omega⟩)
                  | (with_reducible refine And.intro (rowF_some hFl3 (segsC_ne (by omega))) ?_)
                  | (with_reducible refine loadSegC 0 hFl3 hgl0 ?_ ?_ ?_
                     · omega
                     · omega
                     simp -implicitDefEqProofs only [push_cast, ↓reduceIte, Nat.reduceEqDiff, Nat.reduceAdd, Nat.reduceMul, Nat.reduceSub, Nat.reduceLeDiff, Nat.reduceLT, reduceCtorEq, segC])
                  | (with_reducible refine loadSegC (l.length - 1) hFl3 hglL ?_ ?_ ?_
                     · omega
                     · omega
                     simp -implicitDefEqProofs only [push_cast, ↓reduceIte, Nat.reduceEqDiff, Nat.reduceAdd, Nat.reduceMul, Nat.reduceSub, Nat.reduceLeDiff, Nat.reduceLT, reduceCtorEq, segC])
                  | (with_reducible refine And.intro (by omega) ?_)
                  | (with_reducible refine And.intro ?_ ?_)
                  | intro h
                  | exact rfl)
              intro q hq
              refine hK38 _ ?_
              clear hK38
              refine SC.cond ?_
              simp -implicitDefEqProofs only [push_cast, ↓reduceIte, Nat.reduceEqDiff, Nat.reduceAdd, Nat.reduceMul, Nat.reduceSub, Nat.reduceLeDiff, Nat.reduceLT, reduceCtorEq]
              refine ⟨fun h9 => ?_, fun h9 => ?_⟩
              · skip
                refine SC.exit ?_
                simp -implicitDefEqProofs only [push_cast, ↓reduceIte, Nat.reduceEqDiff, Nat.reduceAdd, Nat.reduceMul, Nat.reduceSub, Nat.reduceLeDiff, Nat.reduceLT, reduceCtorEq]
                refine hK35 _ ?_
                clear hK35
                refine SC.region ?_
                simp -implicitDefEqProofs only [push_cast, ↓reduceIte, Nat.reduceEqDiff, Nat.reduceAdd, Nat.reduceMul, Nat.reduceSub, Nat.reduceLeDiff, Nat.reduceLT, reduceCtorEq]
                refine ⟨by omega, k + 1, by omega, by omega, Le.trans (Le.norm _ [0, 3, 9, 11, 12, 86, 87, 88] []) ?_⟩
                simp -implicitDefEqProofs only [push_cast, ↓reduceIte, Nat.reduceEqDiff, Nat.reduceAdd, Nat.reduceMul, Nat.reduceSub, Nat.reduceLeDiff, Nat.reduceLT, reduceCtorEq]
                first
                  | exact Le.refl _
                  | exact Le.fact (fun s h => hF4 s (hF5 s h))
              · skip
                obtain ⟨hq1, hq2⟩ := hq h9
                refine SC.skip ?_
                simp -implicitDefEqProofs only [push_cast, ↓reduceIte, Nat.reduceEqDiff, Nat.reduceAdd, Nat.reduceMul, Nat.reduceSub, Nat.reduceLeDiff, Nat.reduceLT, reduceCtorEq]
                refine hK37 _ ?_
                clear hK37
                refine SC.seqN [0, 3, 9, 11, 12, 19, 20, 86, 87, 88] [] fun K39 hK39 => SC.region ?_
                simp -implicitDefEqProofs only [push_cast, ↓reduceIte, Nat.reduceEqDiff, Nat.reduceAdd, Nat.reduceMul, Nat.reduceSub, Nat.reduceLeDiff, Nat.reduceLT, reduceCtorEq]
                suffices key39 : ∀ F4 : Fact, F4.to F3 → K39 ⟨[(0, .v (.slice a l.length c)), (3, .v (.int .i64 t)), (9, .v (.slice aO ps.length cO)), (11, .v (.int .i64 h)), (12, .v (.int .i64 g)), (19, .v (.int .i64 (dep ps k))), (20, .v (.int .i64 (seenO l row t).edge)), (86, .v (.slice aQ ps.length cQ)), (87, .v (.int .i64 ps.length)), (88, .v (.int .i64 k))], [], F4⟩ by
                  clear hK14 hK25 hK31 hK35 hK39
                  have hsl : (seenO l row t).l.length ≤ l.length := by simp only [seenO, List.length_take]; exact Nat.min_le_right _ _
                  refine ⟨by omega, rowF_some hFO3 (slcs_ne (by omega)), loadRow k hFO3 hgr rfl ?_⟩
                  simp -implicitDefEqProofs only [push_cast, ↓reduceIte, Nat.reduceEqDiff, Nat.reduceAdd, Nat.reduceMul, Nat.reduceSub, Nat.reduceLeDiff, Nat.reduceLT, reduceCtorEq]
                  refine callL_fn (seen_fn l row a (aaO k) c (ccO k) t 100 F3 hFl3 hFr hc (by omega) (by rw [hrb.len]; omega) (stream_ok hT.st) (by omega)) rfl (fun _ h => h) ?_
                  rintro v G hpv
                  rw [cut_small (by omega)] at hpv
                  obtain ⟨a4, c4, rfl, hc4, hG⟩ := hpv
                  simp -implicitDefEqProofs only [push_cast, ↓reduceIte, Nat.reduceEqDiff, Nat.reduceAdd, Nat.reduceMul, Nat.reduceSub, Nat.reduceLeDiff, Nat.reduceLT, reduceCtorEq]
                  refine callL_fn0 (edge_fn (seenO l row t) _ (F3.and G) ⟨a4, c4, rfl, hc4, Fact.to_right hG⟩ (seenO_ok (by rw [hrb.len]; omega) t (by omega) (stream_ok hT.st)) (fun s hs => stream_ok hT.st s (List.mem_of_mem_take hs))) rfl (fun _ h => h) fun v _ hv => ?_
                  subst hv
                  simp -implicitDefEqProofs only [push_cast, ↓reduceIte, Nat.reduceEqDiff, Nat.reduceAdd, Nat.reduceMul, Nat.reduceSub, Nat.reduceLeDiff, Nat.reduceLT, reduceCtorEq]
                  exact key39 _ (Fact.to_left (Fact.to_refl _))
                intro F4 hF4
                obtain ⟨hlaw1, hlaw2⟩ := lag_law hT.st hl0 hrb hD1 hlong hq1 hq2
                refine hK39 _ ?_
                clear hK39
                refine SC.seqN [0, 3, 9, 11, 12, 86, 87, 88, 147] [] fun K40 hK40 => SC.region ?_
                simp -implicitDefEqProofs only [push_cast, ↓reduceIte, Nat.reduceEqDiff, Nat.reduceAdd, Nat.reduceMul, Nat.reduceSub, Nat.reduceLeDiff, Nat.reduceLT, reduceCtorEq]
                suffices key40 : ∀ F5 : Fact, F5.to F4 → K40 ⟨[(0, .v (.slice a l.length c)), (3, .v (.int .i64 t)), (9, .v (.slice aO ps.length cO)), (11, .v (.int .i64 h)), (12, .v (.int .i64 g)), (86, .v (.slice aQ ps.length cQ)), (87, .v (.int .i64 ps.length)), (88, .v (.int .i64 k)), (147, .v (.bool false))], [], F5⟩ by
                  clear hK14 hK25 hK31 hK35 hK40
                  refine ⟨fun _ => ?_, fun h => absurd hlaw1 (by omega)⟩
                  refine callL_fn0 (lag_fn (dep ps k) h g F4 (by omega) (by omega) (by omega)) rfl (fun _ h => h) fun v G hv => ?_
                  subst hv
                  simp -implicitDefEqProofs only [push_cast, ↓reduceIte, Nat.reduceEqDiff, Nat.reduceAdd, Nat.reduceMul, Nat.reduceSub, Nat.reduceLeDiff, Nat.reduceLT, reduceCtorEq]
                  refine ⟨by omega, ?_⟩
                  rw [show decide ((seenO l row t).edge ≤ t - (g + dep ps k * h)) = false from decide_eq_false (by omega), SV.q_false]
                  exact key40 F4 (Fact.to_refl _)
                intro F5 hF5
                refine hK40 _ ?_
                clear hK40
                refine SC.cond ?_
                simp -implicitDefEqProofs only [push_cast, ↓reduceIte, Nat.reduceEqDiff, Nat.reduceAdd, Nat.reduceMul, Nat.reduceSub, Nat.reduceLeDiff, Nat.reduceLT, reduceCtorEq]
                refine SC.skip ?_
                simp -implicitDefEqProofs only [push_cast, ↓reduceIte, Nat.reduceEqDiff, Nat.reduceAdd, Nat.reduceMul, Nat.reduceSub, Nat.reduceLeDiff, Nat.reduceLT, reduceCtorEq]
                refine hK35 _ ?_
                clear hK35
                refine SC.region ?_
                simp -implicitDefEqProofs only [push_cast, ↓reduceIte, Nat.reduceEqDiff, Nat.reduceAdd, Nat.reduceMul, Nat.reduceSub, Nat.reduceLeDiff, Nat.reduceLT, reduceCtorEq]
                refine ⟨by omega, k + 1, by omega, by omega, Le.trans (Le.norm _ [0, 3, 9, 11, 12, 86, 87, 88] []) ?_⟩
                simp -implicitDefEqProofs only [push_cast, ↓reduceIte, Nat.reduceEqDiff, Nat.reduceAdd, Nat.reduceMul, Nat.reduceSub, Nat.reduceLeDiff, Nat.reduceLT, reduceCtorEq]
                first
                  | exact Le.refl _
                  | exact Le.fact (fun s h => hF4 s (hF5 s h))
            · skip
              refine SC.exit ?_
              simp -implicitDefEqProofs only [push_cast, ↓reduceIte, Nat.reduceEqDiff, Nat.reduceAdd, Nat.reduceMul, Nat.reduceSub, Nat.reduceLeDiff, Nat.reduceLT, reduceCtorEq]
              refine hK31 _ ?_
              clear hK31
              refine SC.seqN [8] [] fun K41 hK41 => SC.region ?_
              simp -implicitDefEqProofs only [push_cast, ↓reduceIte, Nat.reduceEqDiff, Nat.reduceAdd, Nat.reduceMul, Nat.reduceSub, Nat.reduceLeDiff, Nat.reduceLT, reduceCtorEq]
              refine callL_fn0 (sanity_fn F3 hl3) rfl (fun _ h => h) fun v G hv => ?_
              subst hv
              simp -implicitDefEqProofs only [push_cast, ↓reduceIte, Nat.reduceEqDiff, Nat.reduceAdd, Nat.reduceMul, Nat.reduceSub, Nat.reduceLeDiff, Nat.reduceLT, reduceCtorEq]
              refine hK41 _ ?_
              clear hK41
              refine SC.ret ?_
              simp -implicitDefEqProofs only [push_cast, ↓reduceIte, Nat.reduceEqDiff, Nat.reduceAdd, Nat.reduceMul, Nat.reduceSub, Nat.reduceLeDiff, Nat.reduceLT, reduceCtorEq, Tryd.f5]
end Go.Proofs.YtmamodnpghlgcaaDoor
/- The plain laws of what two places have seen. -/
set_option linter.unusedSimpArgs false
set_option linter.unusedVariables false
namespace Go.Proofs.YtmamodnpghlgcaaDoor
open Go.RowKit
/-- The first segments of a stream. -/
def pn (l : List Seg) (n : Nat) : Pl := ⟨seenF l, l.take n, false⟩
theorem seenO_pn (l : List Seg) (row : List Int) (t : Int) : seenO l row t = pn l (seenN l row t) := rfl
theorem pn_len {l : List Seg} {n : Nat} (h : n ≤ l.length) : (pn l n).l.length = n := by
  simp only [pn, List.length_take]
  exact Nat.min_eq_left h
theorem pn_next {l : List Seg} {n : Nat} (h : n ≤ l.length) : (pn l n).next = seenF l + n := by
  unfold Pl.next
  rw [pn_len h]
  rfl
theorem pn_prt (l : List Seg) (n : Nat) : (pn l n).l = (prt l 0 n false).l := by
  simp only [pn, prt, List.drop_zero, Nat.sub_zero]
theorem pn_fork {l : List Seg} (h : streamB l = true) {m n : Nat} (hm : m ≤ n) (hn : n ≤ l.length) : forkB (pn l m) (pn l n) = false := by
  unfold forkB
  rw [Bool.or_eq_false_iff, Bool.or_eq_false_iff]
  refine ⟨?_, rfl, ?_⟩
  · rw [List.any_eq_false]
    intro s hs
    rw [pn_prt l n, clash_same h hn (List.mem_of_mem_take hs)]
    decide
  · unfold forkE
    by_cases h0 : m = 0
    · subst h0
      rw [pn_len (by omega)]
      rfl
    · rw [pn_next (by omega), show decide (seenF l + (m : Int) = (pn l n).first) = false from decide_eq_false (by show ¬ (_ = seenF l); omega)]
      simp
theorem pn_out {l : List Seg} {m n : Nat} : mOut (pn l m) (pn l n) false = pn l n := by
  have hb : mBefore (pn l m) (pn l n) = 0 := by
    unfold mBefore
    show max 0 (seenF l - seenF l) = 0
    omega
  unfold mOut
  split
  · rw [hb]
    simp only [pn, Int.toNat_zero, List.take_zero, List.nil_append, Int.sub_zero]
  · rfl
theorem pn_cut {l : List Seg} {n : Nat} (hn : n ≤ l.length) (hl : l.length ≤ 100) : (pn l n).cut 100 = pn l n := by
  unfold Pl.cut
  rw [pn_len hn, show ((n : Int) - 100).toNat = 0 by omega]
  simp
theorem pn_merge {l : List Seg} (h : streamB l = true) (hl : l.length ≤ 100) {m n : Nat} (hm : m ≤ l.length) (hn : n ≤ l.length) : mergeP (pn l m) (pn l n) 100 = (pn l (max m n), 0) := by
  unfold mergeP
  rw [if_neg (by decide)]
  unfold mE mL
  rw [pn_next hm, pn_next hn]
  have hd : ((pn l m).done || (pn l n).done) = false := rfl
  rw [hd]
  by_cases hc : m < n
  · have c1 : seenF l + (m : Int) < seenF l + (n : Int) := by omega
    simp only [if_pos c1]
    rw [pn_fork h (by omega) hn, if_neg (by decide), pn_out, pn_cut hn hl, Nat.max_eq_right (by omega)]
  · have c1 : ¬ seenF l + (m : Int) < seenF l + (n : Int) := by omega
    simp only [if_neg c1]
    rw [pn_fork h (by omega) hm, if_neg (by decide), pn_out, pn_cut hm hl, Nat.max_eq_left (by omega)]
theorem fin_gap {l : List Seg} (h : streamB l = true) {s : Int} (hs : ∀ x ∈ l, s ≤ x.len) {i : Nat} : ∀ (j : Nat), i + j < l.length → finA l i + j * s ≤ finA l (i + j)
  | 0, _ => by simp
  | j + 1, hj => by
    have h1 := fin_gap h hs (i := i) j (by omega)
    have h2 := fin_succ h (i := i + j) hj
    have h3 := hs l[i + j + 1] (List.getElem_mem _)
    have e : ((j + 1 : Nat) : Int) * s = j * s + s := by rw [Int.natCast_add, Int.add_mul]; simp
    rw [e, show i + (j + 1) = i + j + 1 from rfl, h2]
    omega
/-- The law of the gap. -/
theorem gap_law {l : List Seg} {r1 r2 : List Int} {D1 D2 D t s : Int} (h : streamB l = true) (hr1 : RowBd l r1 D1) (hr2 : RowBd l r2 D2) (hD2 : D2 ≤ D) (hD : 0 ≤ D) (hs1 : 1 ≤ s) (hs : ∀ x ∈ l, s ≤ x.len) :
    (seenN l r1 t : Int) - seenN l r2 t ≤ (D + s - 1) / s := by
  obtain ⟨hn1, hle1, _⟩ := seenN_spec hr1 t
  obtain ⟨hn2, _, hgt2⟩ := seenN_spec hr2 t
  have h0 : 0 ≤ (D + s - 1) / s := Int.ediv_nonneg (by omega) (by omega)
  by_cases hc : seenN l r1 t ≤ seenN l r2 t
  · omega
  · obtain ⟨j, hj⟩ : ∃ j, seenN l r1 t = seenN l r2 t + j + 1 := ⟨seenN l r1 t - seenN l r2 t - 1, by omega⟩
    obtain ⟨y, hy, hlt⟩ := hgt2 (by omega)
    have h3 := hr2.hi _ y hy
    have hg : ∃ x, r1[seenN l r2 t + j]? = some x := ⟨r1[seenN l r2 t + j]'(by rw [hr1.len]; omega), List.getElem?_eq_getElem _⟩
    obtain ⟨x, hx⟩ := hg
    have h4 := hle1 _ x (by omega) hx
    have h5 := hr1.lo _ x hx
    have h6 := fin_gap h hs j (i := seenN l r2 t) (by omega)
    have h7 : (j : Int) * s < D := by omega
    rw [Int.le_ediv_iff_mul_le (by omega)]
    have e : ((seenN l r1 t : Int) - seenN l r2 t) * s = j * s + s := by
      rw [show ((seenN l r1 t : Int) - seenN l r2 t) = j + 1 by omega, Int.add_mul, Int.one_mul]
    rw [e]
    omega
end Go.Proofs.YtmamodnpghlgcaaDoor
/- The law of the difference. -/

set_option linter.unusedSimpArgs false
set_option linter.unusedVariables false
set_option maxRecDepth 100000
set_option maxHeartbeats 4000000
namespace Go.Proofs.YtmamodnpghlgcaaDoor
open Go.RowKit
def shortOk (l : List Seg) (x : HopI) : Prop := x.k ≤ l.length ∧ (1 ≤ x.h ∧ x.h ≤ 60000) ∧ ∀ (j : Nat) (s : Seg), j < x.k → l[j]? = some s → x.h ≤ s.len
theorem differ_fn (l : List Seg) (ps : List Int) (ds : List (List Int)) (vP vD : Value) (t : Int) (F : Fact) (a : Option Addr) (c : Nat) (hF : F.to libF) (hFl : F.to (rowF a (segsC l))) (hc : l.length ≤ c) (hP : isInts ps F vP) (hD : isIntss ds F vD) (hdl : ds.length ≤ maxLen) : Fn Tryd.prog 6 [.slice a l.length c, vP, vD, .int .i64 t] F fun v _ => v = .bool true := by
  refine Fn.of_body Tryd.func6 rfl (Nat.le_of_ble_eq_true rfl) (Nat.le_of_ble_eq_true rfl) (by kernel_rfl) ?_
  refine SC.seqN [0, 1, 2, 3] [] fun K1 hK1 => SC.region ?_
  simp -implicitDefEqProofs only [push_cast, ↓reduceIte, Nat.reduceEqDiff, Nat.reduceAdd, Nat.reduceMul, Nat.reduceSub, Nat.reduceLeDiff, Nat.reduceLT, reduceCtorEq]
  refine hK1 _ ?_
  clear hK1
  refine SC.seqN [0, 1, 2, 3] [] fun K2 hK2 => ?_
  refine SC.seqN [0, 1, 2, 3, 34] [] fun K3 hK3 => SC.region ?_
  simp -implicitDefEqProofs only [push_cast, ↓reduceIte, Nat.reduceEqDiff, Nat.reduceAdd, Nat.reduceMul, Nat.reduceSub, Nat.reduceLeDiff, Nat.reduceLT, reduceCtorEq]
  suffices key3 : ∀ q, (q = false → smallB l ps ds = true ∧ 0 < l.length) → K3 ⟨[(0, .v (.slice a l.length c)), (1, .v vP), (2, .v vD), (3, .v (.int .i64 t)), (34, .v (.bool q))], [], F⟩ by
    clear hK2 hK3
    refine callL_fn0 (small_fn l ps ds vP vD F a c hP hD hdl) rfl (fun _ h => h) fun v G hv => ?_
    subst hv
    simp -implicitDefEqProofs only [push_cast, ↓reduceIte, Nat.reduceEqDiff, Nat.reduceAdd, Nat.reduceMul, Nat.reduceSub, Nat.reduceLeDiff, Nat.reduceLT, reduceCtorEq]
    refine ⟨fun hs => ?_, fun hs => ?_⟩
    all_goals first
      | (exact key3 _ fun h => by cases h)
      | (exact key3 _ fun h => ⟨by simpa using hs, by have := of_decide_eq_false h; omega⟩)
  intro q hq
  refine hK3 _ ?_
  clear hK3
  refine SC.cond ?_
  simp -implicitDefEqProofs only [push_cast, ↓reduceIte, Nat.reduceEqDiff, Nat.reduceAdd, Nat.reduceMul, Nat.reduceSub, Nat.reduceLeDiff, Nat.reduceLT, reduceCtorEq]
  refine ⟨fun h1 => ?_, fun h1 => ?_⟩
  · skip
    refine SC.seqN [8] [] fun K4 hK4 => SC.region ?_
    simp -implicitDefEqProofs only [push_cast, ↓reduceIte, Nat.reduceEqDiff, Nat.reduceAdd, Nat.reduceMul, Nat.reduceSub, Nat.reduceLeDiff, Nat.reduceLT, reduceCtorEq]
    refine callL_fn0 (sanity_fn F hF) rfl (fun _ h => h) fun v G hv => ?_
    subst hv
    simp -implicitDefEqProofs only [push_cast, ↓reduceIte, Nat.reduceEqDiff, Nat.reduceAdd, Nat.reduceMul, Nat.reduceSub, Nat.reduceLeDiff, Nat.reduceLT, reduceCtorEq]
    refine hK4 _ ?_
    clear hK4
    refine SC.ret ?_
    simp -implicitDefEqProofs only [push_cast, ↓reduceIte, Nat.reduceEqDiff, Nat.reduceAdd, Nat.reduceMul, Nat.reduceSub, Nat.reduceLeDiff, Nat.reduceLT, reduceCtorEq, Tryd.f6]
  · skip
    obtain ⟨hsm, hl0⟩ := hq h1
    simp only [smallB, Bool.and_eq_true, decide_eq_true_eq, List.all_eq_true] at hsm
    obtain ⟨hd60, hl60, hp12, hd12⟩ := hsm
    refine SC.skip ?_
    simp -implicitDefEqProofs only [push_cast, ↓reduceIte, Nat.reduceEqDiff, Nat.reduceAdd, Nat.reduceMul, Nat.reduceSub, Nat.reduceLeDiff, Nat.reduceLT, reduceCtorEq]
    refine hK2 _ ?_
    clear hK2
    refine SC.seqN [0, 1, 2, 3, 9, 10] [] fun K5 hK5 => SC.region ?_
    simp -implicitDefEqProofs only [push_cast, ↓reduceIte, Nat.reduceEqDiff, Nat.reduceAdd, Nat.reduceMul, Nat.reduceSub, Nat.reduceLeDiff, Nat.reduceLT, reduceCtorEq]
    suffices key5 : ∀ (ov : Value) (F2 : Fact), F2.to F → isIntss (spreadR l ps ds) F2 ov → K5 ⟨[(0, .v (.slice a l.length c)), (1, .v vP), (2, .v vD), (3, .v (.int .i64 t)), (9, .v ov), (10, .v (.int .i64 (spreadE l ps ds)))], [], F2⟩ by
      clear hK5
      refine callL_fn (spread_fn l ps ds _ vP vD F a c rfl hc hFl hP hD (by omega) (by omega) (by omega) (fun d hd => Nat.le_trans (hd60 d hd) (by decide))) rfl (fun _ h => h) ?_
      rintro v G ⟨ov, rfl, hov⟩
      simp -implicitDefEqProofs only [push_cast, ↓reduceIte, Nat.reduceEqDiff, Nat.reduceAdd, Nat.reduceMul, Nat.reduceSub, Nat.reduceLeDiff, Nat.reduceLT, reduceCtorEq]
      exact key5 ov _ (Fact.to_left (Fact.to_refl _)) (hov.to (Fact.to_right (Fact.to_refl _)))
    intro ov F2 hF2 hov
    have hl2 := Fact.to_trans hF2 hF
    obtain ⟨aO, cO, aaO, ccO, rfl, hcO, hFO, hRO⟩ := hov
    refine hK5 _ ?_
    clear hK5
    refine SC.seqN [0, 1, 2, 3, 9] [] fun K6 hK6 => ?_
    refine SC.seqN [0, 1, 2, 3, 9, 44] [] fun K7 hK7 => SC.region ?_
    simp -implicitDefEqProofs only [push_cast, ↓reduceIte, Nat.reduceEqDiff, Nat.reduceAdd, Nat.reduceMul, Nat.reduceSub, Nat.reduceLeDiff, Nat.reduceLT, reduceCtorEq]
    refine hK7 _ ?_
    clear hK7
    refine SC.cond ?_
    simp -implicitDefEqProofs only [push_cast, ↓reduceIte, Nat.reduceEqDiff, Nat.reduceAdd, Nat.reduceMul, Nat.reduceSub, Nat.reduceLeDiff, Nat.reduceLT, reduceCtorEq]
    refine ⟨fun h2 => ?_, fun h2 => ?_⟩
    · skip
      refine SC.seqN [8] [] fun K8 hK8 => SC.region ?_
      simp -implicitDefEqProofs only [push_cast, ↓reduceIte, Nat.reduceEqDiff, Nat.reduceAdd, Nat.reduceMul, Nat.reduceSub, Nat.reduceLeDiff, Nat.reduceLT, reduceCtorEq]
      refine callL_fn0 (sanity_fn F2 hl2) rfl (fun _ h => h) fun v G hv => ?_
      subst hv
      simp -implicitDefEqProofs only [push_cast, ↓reduceIte, Nat.reduceEqDiff, Nat.reduceAdd, Nat.reduceMul, Nat.reduceSub, Nat.reduceLeDiff, Nat.reduceLT, reduceCtorEq]
      have h9 : spreadR l ps ds = [] := by
        rcases spreadE_cases l ps ds with ⟨h8, _⟩ | ⟨_, h9⟩
        · exact absurd h8 (by simpa using h2)
        · exact h9
      rw [h9]
      simp -implicitDefEqProofs only [push_cast, ↓reduceIte, Nat.reduceEqDiff, Nat.reduceAdd, Nat.reduceMul, Nat.reduceSub, Nat.reduceLeDiff, Nat.reduceLT, reduceCtorEq, List.length_nil, Int.reduceToNat, Int.reduceAdd, Int.reduceLT, Int.reduceLE, Nat.reduceMul, Nat.reduceAdd, Nat.zero_mul, Nat.one_mul, Nat.mul_one, List.drop_zero, List.drop_succ_cons, List.take_zero, List.take_succ_cons, Int.toNat_zero, Int.toNat_one, and_self, true_and, Int.cast_ofNat_Int, Int.natCast_one, Int.zero_add, Nat.le_refl, Nat.reduceLeDiff, Nat.reduceLT, Int.ofNat_eq_natCast, Int.natCast_zero, Int.reduceMul, Int.reduceSub, decide_true, decide_false, SV.q_true, SV.q_false]
      refine hK8 _ ?_
      clear hK8
      refine SC.ret ?_
      simp -implicitDefEqProofs only [push_cast, ↓reduceIte, Nat.reduceEqDiff, Nat.reduceAdd, Nat.reduceMul, Nat.reduceSub, Nat.reduceLeDiff, Nat.reduceLT, reduceCtorEq, Tryd.f6]
    · skip
      have hE0 : spreadE l ps ds = 0 := by simpa using h2
      obtain ⟨hbad, hrows⟩ : spreadBad l ps ds = false ∧ spreadR l ps ds = spreadRows l ps ds ps.length := by
        rcases spreadE_cases l ps ds with ⟨_, hbad, hrows⟩ | ⟨h9, _⟩
        · exact ⟨hbad, hrows⟩
        · rw [hE0] at h9; exact absurd h9 (by decide)
      have hT := tree_of hbad
      obtain ⟨aP, cP, rfl, hcP, hFP⟩ := hP
      obtain ⟨aD, cD, aaD, ccD, rfl, hcD, hFD, hRD⟩ := hD
      have hlen := spreadRows_length l ps ds ps.length
      have hFP2 := Fact.to_trans hF2 hFP
      have hFD2 := Fact.to_trans hF2 hFD
      have hRD2 := hRD.to hF2
      have hFl2 := Fact.to_trans hF2 hFl
      clear hFP hFD hRD
      rw [hrows] at hcO hFO hRO ⊢
      rw [hlen] at hcO ⊢
      refine SC.skip ?_
      simp -implicitDefEqProofs only [push_cast, ↓reduceIte, Nat.reduceEqDiff, Nat.reduceAdd, Nat.reduceMul, Nat.reduceSub, Nat.reduceLeDiff, Nat.reduceLT, reduceCtorEq]
      refine hK6 _ ?_
      clear hK6
      refine SC.seqN [0, 1, 2, 3, 9, 11, 12] [] fun K9 hK9 => SC.region ?_
      simp -implicitDefEqProofs only [push_cast, ↓reduceIte, Nat.reduceEqDiff, Nat.reduceAdd, Nat.reduceMul, Nat.reduceSub, Nat.reduceLeDiff, Nat.reduceLT, reduceCtorEq]
      refine hK9 _ ?_
      clear hK9
      refine SC.seqN [0, 1, 3, 9, 11, 12] [] fun K10 hK10 => ?_
      refine SC.seqN [0, 1, 2, 3, 9, 11, 12, 13] [] fun K11 hK11 => SC.region ?_
      simp -implicitDefEqProofs only [push_cast, ↓reduceIte, Nat.reduceEqDiff, Nat.reduceAdd, Nat.reduceMul, Nat.reduceSub, Nat.reduceLeDiff, Nat.reduceLT, reduceCtorEq]
      refine hK11 _ ?_
      clear hK11
      refine SC.block ?_
      refine SC.loop (fun x : HopI => ⟨[(0, .v (.slice a l.length c)), (1, .v (.slice aP ps.length cP)), (2, .v (.slice aD ds.length cD)), (3, .v (.int .i64 t)), (9, .v (.slice aO ps.length cO)), (11, .v (.int .i64 x.h)), (12, .v (.int .i64 60000)), (13, .v (.int .i64 x.k))], [], F2⟩) (hopOk ps ds) (fun x => ps.length - x.k) ⟨1, 0⟩ (Le.refl _) ⟨⟨Nat.le_refl _, hT.one⟩, Int.le_refl _, fun j d h1 (h2 : j < 1) => absurd h2 (by omega)⟩ fun x hx => ?_
      obtain ⟨k, h⟩ := x
      obtain ⟨⟨hk1, hk2⟩, hh0, hhj⟩ := hx
      simp only at hk1 hk2 hh0 hhj ⊢
      refine SC.seqN [0, 1, 2, 3, 9, 11, 12, 13] [] fun K12 hK12 => ?_
      refine SC.seqN [0, 1, 2, 3, 9, 11, 12, 13, 54] [] fun K13 hK13 => SC.region ?_
      simp -implicitDefEqProofs only [push_cast, ↓reduceIte, Nat.reduceEqDiff, Nat.reduceAdd, Nat.reduceMul, Nat.reduceSub, Nat.reduceLeDiff, Nat.reduceLT, reduceCtorEq]
      refine hK13 _ ?_
      clear hK13
      refine SC.cond ?_
      simp -implicitDefEqProofs only [push_cast, ↓reduceIte, Nat.reduceEqDiff, Nat.reduceAdd, Nat.reduceMul, Nat.reduceSub, Nat.reduceLeDiff, Nat.reduceLT, reduceCtorEq]
      refine ⟨fun h3 => ?_, fun h3 => ?_⟩
      · skip
        have hkl : k < ps.length := by omega
        have hkd : k < ds.length := by rw [hT.len]; exact hkl
        have hgd : ds[k]? = some ds[k] := List.getElem?_eq_getElem hkd
        obtain ⟨hcd, hFd⟩ := hRD2 k _ hgd
        obtain ⟨d, hd⟩ : ∃ d, d = ds[k] := ⟨_, rfl⟩
        rw [← hd] at hgd hcd hFd
        have hd6 : d.length ≤ 60 := by rw [hd]; exact hd60 _ (List.getElem_mem _)
        refine SC.skip ?_
        simp -implicitDefEqProofs only [push_cast, ↓reduceIte, Nat.reduceEqDiff, Nat.reduceAdd, Nat.reduceMul, Nat.reduceSub, Nat.reduceLeDiff, Nat.reduceLT, reduceCtorEq]
        refine hK12 _ ?_
        clear hK12
        refine SC.seqN [0, 1, 2, 3, 9, 11, 12, 13] [] fun K14 hK14 => ?_
        refine SC.block ?_
        refine SC.seqN [0, 1, 2, 3, 9, 11, 12, 13, 60, 61, 62] [] fun K15 hK15 => SC.region ?_
        simp -implicitDefEqProofs only [push_cast, ↓reduceIte, Nat.reduceEqDiff, Nat.reduceAdd, Nat.reduceMul, Nat.reduceSub, Nat.reduceLeDiff, Nat.reduceLT, reduceCtorEq]
        refine ⟨by omega, rowF_some hFD2 (slcs_ne (by omega)), loadRow k hFD2 hgd rfl ?_⟩
        simp -implicitDefEqProofs only [push_cast, ↓reduceIte, Nat.reduceEqDiff, Nat.reduceAdd, Nat.reduceMul, Nat.reduceSub, Nat.reduceLeDiff, Nat.reduceLT, reduceCtorEq]
        refine hK15 _ ?_
        clear hK15
        refine SC.block ?_
        refine SC.loop (fun x : HopI => ⟨[(0, .v (.slice a l.length c)), (1, .v (.slice aP ps.length cP)), (2, .v (.slice aD ds.length cD)), (3, .v (.int .i64 t)), (9, .v (.slice aO ps.length cO)), (11, .v (.int .i64 x.h)), (12, .v (.int .i64 60000)), (13, .v (.int .i64 k)), (60, .v (.slice (aaD k) d.length (ccD k))), (61, .v (.int .i64 d.length)), (62, .v (.int .i64 x.k))], [], F2⟩) (hop2Ok d h) (fun x => d.length - x.k) ⟨0, h⟩ (Le.refl _) ⟨Nat.zero_le _, Int.le_refl _, fun j y h1 => absurd h1 (Nat.not_lt_zero _)⟩ fun x hx => ?_
        obtain ⟨i, g⟩ := x
        obtain ⟨hi1, hg0, hgj⟩ := hx
        simp only at hi1 hg0 hgj ⊢
        refine SC.seqN [0, 1, 2, 3, 9, 11, 12, 13, 60, 61, 62, 63] [] fun K16 hK16 => SC.region ?_
        simp -implicitDefEqProofs only [push_cast, ↓reduceIte, Nat.reduceEqDiff, Nat.reduceAdd, Nat.reduceMul, Nat.reduceSub, Nat.reduceLeDiff, Nat.reduceLT, reduceCtorEq]
        refine hK16 _ ?_
        clear hK16
        refine SC.seqN [0, 1, 2, 3, 9, 11, 12, 13, 60, 61, 62] [] fun K17 hK17 => ?_
        refine SC.cond ?_
        simp -implicitDefEqProofs only [push_cast, ↓reduceIte, Nat.reduceEqDiff, Nat.reduceAdd, Nat.reduceMul, Nat.reduceSub, Nat.reduceLeDiff, Nat.reduceLT, reduceCtorEq]
        refine ⟨fun h4 => ?_, fun h4 => ?_⟩
        · skip
          have hil : i < d.length := by omega
          have hgi : d[i]? = some d[i] := List.getElem?_eq_getElem hil
          refine SC.skip ?_
          simp -implicitDefEqProofs only [push_cast, ↓reduceIte, Nat.reduceEqDiff, Nat.reduceAdd, Nat.reduceMul, Nat.reduceSub, Nat.reduceLeDiff, Nat.reduceLT, reduceCtorEq]
          refine hK17 _ ?_
          clear hK17
          refine SC.seqN [0, 1, 2, 3, 9, 11, 12, 13, 60, 61, 62] [] fun K18 hK18 => ?_
          refine SC.block ?_
          refine SC.seqN [0, 1, 2, 3, 9, 11, 12, 13, 15, 60, 61, 62] [] fun K19 hK19 => SC.region ?_
          simp -implicitDefEqProofs only [push_cast, ↓reduceIte, Nat.reduceEqDiff, Nat.reduceAdd, Nat.reduceMul, Nat.reduceSub, Nat.reduceLeDiff, Nat.reduceLT, reduceCtorEq]
          refine ⟨by omega, rowF_some hFd (ints_ne (by omega)), loadInt i hFd hgi rfl ?_⟩
          simp -implicitDefEqProofs only [push_cast, ↓reduceIte, Nat.reduceEqDiff, Nat.reduceAdd, Nat.reduceMul, Nat.reduceSub, Nat.reduceLeDiff, Nat.reduceLT, reduceCtorEq]
          refine hK19 _ ?_
          clear hK19
          refine SC.region ?_
          simp -implicitDefEqProofs only [push_cast, ↓reduceIte, Nat.reduceEqDiff, Nat.reduceAdd, Nat.reduceMul, Nat.reduceSub, Nat.reduceLeDiff, Nat.reduceLT, reduceCtorEq]
          refine hK18 _ ?_
          clear hK18
          refine SC.region ?_
          simp -implicitDefEqProofs only [push_cast, ↓reduceIte, Nat.reduceEqDiff, Nat.reduceAdd, Nat.reduceMul, Nat.reduceSub, Nat.reduceLeDiff, Nat.reduceLT, reduceCtorEq]
          refine ⟨by omega, ⟨i + 1, max g d[i]⟩, ⟨by simp only; omega, by simp only; omega, fun j y (hj : j < i + 1) hy => ?_⟩, by simp only; omega, Le.trans (Le.norm _ [0, 1, 2, 3, 9, 11, 12, 13, 60, 61, 62] []) ?_⟩
          · simp only
            by_cases hji : j = i
            · subst hji
              rw [hgi] at hy
              obtain rfl := Option.some.inj hy
              omega
            · have := hgj j y (by omega) hy
              omega
          · simp -implicitDefEqProofs only [push_cast, ↓reduceIte, Nat.reduceEqDiff, Nat.reduceAdd, Nat.reduceMul, Nat.reduceSub, Nat.reduceLeDiff, Nat.reduceLT, reduceCtorEq]
            exact Le.refl _
        · skip
          refine SC.exit ?_
          simp -implicitDefEqProofs only [push_cast, ↓reduceIte, Nat.reduceEqDiff, Nat.reduceAdd, Nat.reduceMul, Nat.reduceSub, Nat.reduceLeDiff, Nat.reduceLT, reduceCtorEq]
          have hid : i = d.length := by omega
          refine hK14 _ ?_
          clear hK14
          refine SC.region ?_
          simp -implicitDefEqProofs only [push_cast, ↓reduceIte, Nat.reduceEqDiff, Nat.reduceAdd, Nat.reduceMul, Nat.reduceSub, Nat.reduceLeDiff, Nat.reduceLT, reduceCtorEq]
          refine ⟨by omega, ⟨k + 1, g⟩, ⟨by simp only; omega, by simp only; omega, fun j e h1 (hj : j < k + 1) he y hy => ?_⟩, by simp only; omega, Le.trans (Le.norm _ [0, 1, 2, 3, 9, 11, 12, 13] []) ?_⟩
          · simp only
            by_cases hjk : j = k
            · subst hjk
              rw [hgd] at he
              obtain rfl := Option.some.inj he
              obtain ⟨n, hn⟩ := List.getElem?_of_mem hy
              have hnl := (List.getElem?_eq_some_iff.1 hn).1
              exact hgj n y (by omega) hn
            · have := hhj j e h1 (by omega) he y hy
              omega
          · simp -implicitDefEqProofs only [push_cast, ↓reduceIte, Nat.reduceEqDiff, Nat.reduceAdd, Nat.reduceMul, Nat.reduceSub, Nat.reduceLeDiff, Nat.reduceLT, reduceCtorEq]
            exact Le.refl _
      · skip
        refine SC.exit ?_
        simp -implicitDefEqProofs only [push_cast, ↓reduceIte, Nat.reduceEqDiff, Nat.reduceAdd, Nat.reduceMul, Nat.reduceSub, Nat.reduceLeDiff, Nat.reduceLT, reduceCtorEq]
        have hkp : k = ps.length := by omega
        have hhop : ∀ (j : Nat) (d : List Int), 1 ≤ j → ds[j]? = some d → ∀ y ∈ d, y ≤ h := fun j d h1 hj y hy => hhj j d h1 (by rw [hkp, ← hT.len]; exact (List.getElem?_eq_some_iff.1 hj).1) hj y hy
        refine hK10 _ ?_
        clear hK10
        refine SC.seqN [0, 1, 3, 9, 11, 12] [] fun K20 hK20 => ?_
        refine SC.seqN [0, 1, 3, 9, 11, 12, 70, 71, 72] [] fun K21 hK21 => SC.region ?_
        simp -implicitDefEqProofs only [push_cast, ↓reduceIte, Nat.reduceEqDiff, Nat.reduceAdd, Nat.reduceMul, Nat.reduceSub, Nat.reduceLeDiff, Nat.reduceLT, reduceCtorEq]
        refine hK21 _ ?_
        clear hK21
        refine SC.block ?_
        refine SC.loop (fun x : HopI => ⟨[(0, .v (.slice a l.length c)), (1, .v (.slice aP ps.length cP)), (3, .v (.int .i64 t)), (9, .v (.slice aO ps.length cO)), (11, .v (.int .i64 h)), (12, .v (.int .i64 x.h)), (70, .v (.slice a l.length c)), (71, .v (.int .i64 l.length)), (72, .v (.int .i64 x.k))], [], F2⟩) (shortOk l) (fun x => l.length - x.k) ⟨0, 60000⟩ (Le.refl _) ⟨Nat.zero_le _, by decide, fun j y h1 => absurd h1 (Nat.not_lt_zero _)⟩ fun x hx => ?_
        obtain ⟨i, g⟩ := x
        obtain ⟨hi1, hg0, hgj⟩ := hx
        simp only at hi1 hg0 hgj ⊢
        refine SC.seqN [0, 1, 3, 9, 11, 12, 70, 71, 72, 73] [] fun K22 hK22 => SC.region ?_
        simp -implicitDefEqProofs only [push_cast, ↓reduceIte, Nat.reduceEqDiff, Nat.reduceAdd, Nat.reduceMul, Nat.reduceSub, Nat.reduceLeDiff, Nat.reduceLT, reduceCtorEq]
        refine hK22 _ ?_
        clear hK22
        refine SC.seqN [0, 1, 3, 9, 11, 12, 70, 71, 72] [] fun K23 hK23 => ?_
        refine SC.cond ?_
        simp -implicitDefEqProofs only [push_cast, ↓reduceIte, Nat.reduceEqDiff, Nat.reduceAdd, Nat.reduceMul, Nat.reduceSub, Nat.reduceLeDiff, Nat.reduceLT, reduceCtorEq]
        refine ⟨fun h5 => ?_, fun h5 => ?_⟩
        · skip
          have hil : i < l.length := by omega
          have hgi : l[i]? = some l[i] := List.getElem?_eq_getElem hil
          have hri := right_bd (stream_right hT.st l[i] (List.getElem_mem _))
          refine SC.skip ?_
          simp -implicitDefEqProofs only [push_cast, ↓reduceIte, Nat.reduceEqDiff, Nat.reduceAdd, Nat.reduceMul, Nat.reduceSub, Nat.reduceLeDiff, Nat.reduceLT, reduceCtorEq]
          refine hK23 _ ?_
          clear hK23
          refine SC.seqN [0, 1, 3, 9, 11, 12, 70, 71, 72] [] fun K24 hK24 => ?_
          refine SC.block ?_
          refine SC.seqN [0, 1, 3, 9, 11, 12, 17, 70, 71, 72] [.l 17] fun K25 hK25 => SC.region ?_
          simp -implicitDefEqProofs only [push_cast, ↓reduceIte, Nat.reduceEqDiff, Nat.reduceAdd, Nat.reduceMul, Nat.reduceSub, Nat.reduceLeDiff, Nat.reduceLT, reduceCtorEq]
          refine ⟨by omega, rowF_some hFl2 (segsC_ne (by omega)), loadSeg i hFl2 hgi ?_ ?_ ?_⟩
          · omega
          · rfl
          simp -implicitDefEqProofs only [push_cast, ↓reduceIte, Nat.reduceEqDiff, Nat.reduceAdd, Nat.reduceMul, Nat.reduceSub, Nat.reduceLeDiff, Nat.reduceLT, reduceCtorEq, segV, segC]
          refine hK25 _ ?_
          clear hK25
          refine SC.region ?_
          simp -implicitDefEqProofs only [push_cast, ↓reduceIte, Nat.reduceEqDiff, Nat.reduceAdd, Nat.reduceMul, Nat.reduceSub, Nat.reduceLeDiff, Nat.reduceLT, reduceCtorEq]
          refine hK24 _ ?_
          clear hK24
          refine SC.region ?_
          simp -implicitDefEqProofs only [push_cast, ↓reduceIte, Nat.reduceEqDiff, Nat.reduceAdd, Nat.reduceMul, Nat.reduceSub, Nat.reduceLeDiff, Nat.reduceLT, reduceCtorEq]
          refine ⟨by omega, ⟨i + 1, min g l[i].len⟩, ⟨by simp only; omega, by simp only; omega, fun j y (hj : j < i + 1) hy => ?_⟩, by simp only; omega, Le.trans (Le.norm _ [0, 1, 3, 9, 11, 12, 70, 71, 72] []) ?_⟩
          · simp only
            by_cases hji : j = i
            · subst hji
              rw [hgi] at hy
              obtain rfl := Option.some.inj hy
              omega
            · have := hgj j y (by omega) hy
              omega
          · simp -implicitDefEqProofs only [push_cast, ↓reduceIte, Nat.reduceEqDiff, Nat.reduceAdd, Nat.reduceMul, Nat.reduceSub, Nat.reduceLeDiff, Nat.reduceLT, reduceCtorEq]
            exact Le.refl _
        · skip
          refine SC.exit ?_
          simp -implicitDefEqProofs only [push_cast, ↓reduceIte, Nat.reduceEqDiff, Nat.reduceAdd, Nat.reduceMul, Nat.reduceSub, Nat.reduceLeDiff, Nat.reduceLT, reduceCtorEq]
          have hlong : ∀ s ∈ l, g ≤ s.len := fun s hs => by
            obtain ⟨j, hj⟩ := List.getElem?_of_mem hs
            exact hgj j s (by have := (List.getElem?_eq_some_iff.1 hj).1; omega) hj
          refine hK20 _ ?_
          clear hK20
          refine SC.seqN [0, 1, 3, 9, 11, 12] [] fun K26 hK26 => ?_
          refine SC.seqN [0, 1, 3, 9, 11, 12, 82] [] fun K27 hK27 => SC.region ?_
          simp -implicitDefEqProofs only [push_cast, ↓reduceIte, Nat.reduceEqDiff, Nat.reduceAdd, Nat.reduceMul, Nat.reduceSub, Nat.reduceLeDiff, Nat.reduceLT, reduceCtorEq]
          refine hK27 _ ?_
          clear hK27
          refine SC.cond ?_
          simp -implicitDefEqProofs only [push_cast, ↓reduceIte, Nat.reduceEqDiff, Nat.reduceAdd, Nat.reduceMul, Nat.reduceSub, Nat.reduceLeDiff, Nat.reduceLT, reduceCtorEq]
          refine ⟨fun h6 => ?_, fun h6 => ?_⟩
          · skip
            refine SC.seqN [8] [] fun K28 hK28 => SC.region ?_
            simp -implicitDefEqProofs only [push_cast, ↓reduceIte, Nat.reduceEqDiff, Nat.reduceAdd, Nat.reduceMul, Nat.reduceSub, Nat.reduceLeDiff, Nat.reduceLT, reduceCtorEq]
            refine callL_fn0 (sanity_fn F2 hl2) rfl (fun _ h => h) fun v G hv => ?_
            subst hv
            simp -implicitDefEqProofs only [push_cast, ↓reduceIte, Nat.reduceEqDiff, Nat.reduceAdd, Nat.reduceMul, Nat.reduceSub, Nat.reduceLeDiff, Nat.reduceLT, reduceCtorEq]
            refine hK28 _ ?_
            clear hK28
            refine SC.ret ?_
            simp -implicitDefEqProofs only [push_cast, ↓reduceIte, Nat.reduceEqDiff, Nat.reduceAdd, Nat.reduceMul, Nat.reduceSub, Nat.reduceLeDiff, Nat.reduceLT, reduceCtorEq, Tryd.f6]
          · skip
            refine SC.skip ?_
            simp -implicitDefEqProofs only [push_cast, ↓reduceIte, Nat.reduceEqDiff, Nat.reduceAdd, Nat.reduceMul, Nat.reduceSub, Nat.reduceLeDiff, Nat.reduceLT, reduceCtorEq]
            refine hK26 _ ?_
            clear hK26
            refine SC.seqN [0, 3, 9, 11, 12, 18] [] fun K29 hK29 => SC.region ?_
            simp -implicitDefEqProofs only [push_cast, ↓reduceIte, Nat.reduceEqDiff, Nat.reduceAdd, Nat.reduceMul, Nat.reduceSub, Nat.reduceLeDiff, Nat.reduceLT, reduceCtorEq]
            suffices key29 : ∀ (aQ : Option Addr) (cQ : Nat) (F3 : Fact), F3.to F2 → F3.to (rowF aQ (ints (deps ps ps.length))) → ps.length ≤ cQ → K29 ⟨[(0, .v (.slice a l.length c)), (3, .v (.int .i64 t)), (9, .v (.slice aO ps.length cO)), (11, .v (.int .i64 h)), (12, .v (.int .i64 g)), (18, .v (.slice aQ ps.length cQ))], [], F3⟩ by
              clear hK12 hK23 hK29
              refine callL_fn (depths_fn ps _ F2 ⟨aP, cP, rfl, hcP, hFP2⟩ hT.one (by omega) hT.par) rfl (fun _ h => h) ?_
              rintro v G ⟨aQ, cQ, rfl, hcQ, hFQ⟩
              rw [deps_length] at hcQ ⊢
              simp -implicitDefEqProofs only [push_cast, ↓reduceIte, Nat.reduceEqDiff, Nat.reduceAdd, Nat.reduceMul, Nat.reduceSub, Nat.reduceLeDiff, Nat.reduceLT, reduceCtorEq]
              exact key29 aQ cQ _ (Fact.to_left (Fact.to_refl _)) (Fact.to_right hFQ) hcQ
            intro aQ cQ F3 hF3 hFQ hcQ
            have hl3 := Fact.to_trans hF3 hl2
            have hFl3 := Fact.to_trans hF3 hFl2
            have hFO3 := Fact.to_trans hF3 hFO
            have hRO3 := rowsOk.to hRO hF3
            have hh7 : h ≤ 1073741824 := by omega
            have hseen : ∀ (n : Nat) (row : List Int) (D : Int) (G : Fact), G.to F3 → (spreadRows l ps ds ps.length)[n]? = some row → RowBd l row D → Fn Tryd.prog 20 [.slice a l.length c, .slice (aaO n) row.length (ccO n), .int .i64 t, .int .i64 100] G fun v G2 => isPl (pn l (seenN l row t)) G2 v := by
              intro n row D G hG hrow hrb
              obtain ⟨hcr, hFr⟩ := hRO3 n row hrow
              have h := seen_fn l row a (aaO n) c (ccO n) t 100 G (Fact.to_trans hG hFl3) (Fact.to_trans hG hFr) hc (by omega) (by rw [hrb.len]; omega) (stream_ok hT.st) (by omega)
              rw [seenO_pn, pn_cut (seenN_spec hrb t).1 (by omega)] at h
              exact h
            refine hK29 _ ?_
            clear hK29
            refine SC.seqN [] [] fun K30 hK30 => ?_
            refine SC.seqN [0, 3, 9, 11, 12, 18, 87, 88] [] fun K31 hK31 => SC.region ?_
            simp -implicitDefEqProofs only [push_cast, ↓reduceIte, Nat.reduceEqDiff, Nat.reduceAdd, Nat.reduceMul, Nat.reduceSub, Nat.reduceLeDiff, Nat.reduceLT, reduceCtorEq]
            refine hK31 _ ?_
            clear hK31
            refine SC.block ?_
            refine SC.loop (fun i : Nat => ⟨[(0, .v (.slice a l.length c)), (3, .v (.int .i64 t)), (9, .v (.slice aO ps.length cO)), (11, .v (.int .i64 h)), (12, .v (.int .i64 g)), (18, .v (.slice aQ ps.length cQ)), (87, .v (.int .i64 ps.length)), (88, .v (.int .i64 i))], [], F3⟩) (fun i => i ≤ ps.length) (fun i => ps.length - i) 0 (Le.refl _) (Nat.zero_le _) fun i hi => ?_
            refine SC.seqN [0, 3, 9, 11, 12, 18, 87, 88, 89] [] fun K32 hK32 => SC.region ?_
            simp -implicitDefEqProofs only [push_cast, ↓reduceIte, Nat.reduceEqDiff, Nat.reduceAdd, Nat.reduceMul, Nat.reduceSub, Nat.reduceLeDiff, Nat.reduceLT, reduceCtorEq]
            refine hK32 _ ?_
            clear hK32
            refine SC.seqN [0, 3, 9, 11, 12, 18, 87, 88] [] fun K33 hK33 => ?_
            refine SC.cond ?_
            simp -implicitDefEqProofs only [push_cast, ↓reduceIte, Nat.reduceEqDiff, Nat.reduceAdd, Nat.reduceMul, Nat.reduceSub, Nat.reduceLeDiff, Nat.reduceLT, reduceCtorEq]
            refine ⟨fun h7 => ?_, fun h7 => ?_⟩
            · skip
              have hil : i < ps.length := by omega
              have hgi : (deps ps ps.length)[i]? = some (dep ps i) := deps_get hil
              have hri : (spreadRows l ps ds ps.length)[i]? = some ((spreadRows l ps ds ps.length)[i]'(by omega)) := List.getElem?_eq_getElem _
              obtain ⟨ri, hrowi⟩ : ∃ row, row = (spreadRows l ps ds ps.length)[i]'(by omega) := ⟨_, rfl⟩
              rw [← hrowi] at hri
              have hrbi := row_bd hT hh0 hhop hri
              have hdbi := dep_bd ps i
              obtain ⟨ni, hni⟩ : ∃ n, n = seenN l ri t := ⟨_, rfl⟩
              have hnil : ni ≤ l.length := by rw [hni]; exact (seenN_spec hrbi t).1
              refine SC.skip ?_
              simp -implicitDefEqProofs only [push_cast, ↓reduceIte, Nat.reduceEqDiff, Nat.reduceAdd, Nat.reduceMul, Nat.reduceSub, Nat.reduceLeDiff, Nat.reduceLT, reduceCtorEq]
              refine hK33 _ ?_
              clear hK33
              refine SC.seqN [0, 3, 9, 11, 12, 18, 87, 88] [] fun K34 hK34 => ?_
              refine SC.block ?_
              refine SC.seqN [0, 3, 9, 11, 12, 18, 19, 87, 88] [] fun K35 hK35 => SC.region ?_
              simp -implicitDefEqProofs only [push_cast, ↓reduceIte, Nat.reduceEqDiff, Nat.reduceAdd, Nat.reduceMul, Nat.reduceSub, Nat.reduceLeDiff, Nat.reduceLT, reduceCtorEq]
              refine hK35 _ ?_
              clear hK35
              refine SC.seqN [0, 3, 9, 11, 12, 18, 19, 87, 88, 92, 93] [] fun K36 hK36 => SC.region ?_
              simp -implicitDefEqProofs only [push_cast, ↓reduceIte, Nat.reduceEqDiff, Nat.reduceAdd, Nat.reduceMul, Nat.reduceSub, Nat.reduceLeDiff, Nat.reduceLT, reduceCtorEq]
              refine hK36 _ ?_
              clear hK36
              refine SC.block ?_
              refine SC.loop (fun k : Nat => ⟨[(0, .v (.slice a l.length c)), (3, .v (.int .i64 t)), (9, .v (.slice aO ps.length cO)), (11, .v (.int .i64 h)), (12, .v (.int .i64 g)), (18, .v (.slice aQ ps.length cQ)), (19, .v (.int .i64 i)), (87, .v (.int .i64 ps.length)), (88, .v (.int .i64 i)), (92, .v (.int .i64 ps.length)), (93, .v (.int .i64 k))], [], F3⟩) (fun k => k ≤ ps.length) (fun k => ps.length - k) 0 (Le.refl _) (Nat.zero_le _) fun k hk => ?_
              refine SC.seqN [0, 3, 9, 11, 12, 18, 19, 87, 88, 92, 93, 94] [] fun K37 hK37 => SC.region ?_
              simp -implicitDefEqProofs only [push_cast, ↓reduceIte, Nat.reduceEqDiff, Nat.reduceAdd, Nat.reduceMul, Nat.reduceSub, Nat.reduceLeDiff, Nat.reduceLT, reduceCtorEq]
              refine hK37 _ ?_
              clear hK37
              refine SC.seqN [0, 3, 9, 11, 12, 18, 19, 87, 88, 92, 93] [] fun K38 hK38 => ?_
              refine SC.cond ?_
              simp -implicitDefEqProofs only [push_cast, ↓reduceIte, Nat.reduceEqDiff, Nat.reduceAdd, Nat.reduceMul, Nat.reduceSub, Nat.reduceLeDiff, Nat.reduceLT, reduceCtorEq]
              refine ⟨fun h8 => ?_, fun h8 => ?_⟩
              · skip
                have hkl : k < ps.length := by omega
                have hgk : (deps ps ps.length)[k]? = some (dep ps k) := deps_get hkl
                have hrk : (spreadRows l ps ds ps.length)[k]? = some ((spreadRows l ps ds ps.length)[k]'(by omega)) := List.getElem?_eq_getElem _
                obtain ⟨rk, hrowk⟩ : ∃ row, row = (spreadRows l ps ds ps.length)[k]'(by omega) := ⟨_, rfl⟩
                rw [← hrowk] at hrk
                have hrbk := row_bd hT hh0 hhop hrk
                have hdbk := dep_bd ps k
                obtain ⟨nk, hnk⟩ : ∃ n, n = seenN l rk t := ⟨_, rfl⟩
                have hnkl : nk ≤ l.length := by rw [hnk]; exact (seenN_spec hrbk t).1
                obtain ⟨P, hP⟩ : ∃ P, P = pn l ni := ⟨_, rfl⟩
                obtain ⟨Q, hQ⟩ : ∃ Q, Q = pn l nk := ⟨_, rfl⟩
                have hci : ∀ G : Fact, G.to F3 → Fn Tryd.prog 20 [.slice a l.length c, .slice (aaO i) ri.length (ccO i), .int .i64 t, .int .i64 100] G fun v G2 => isPl P G2 v := fun G hG => by
                  rw [hP, hni]; exact hseen i ri _ G hG hri hrbi
                have hck : ∀ G : Fact, G.to F3 → Fn Tryd.prog 20 [.slice a l.length c, .slice (aaO k) rk.length (ccO k), .int .i64 t, .int .i64 100] G fun v G2 => isPl Q G2 v := fun G hG => by
                  rw [hQ, hnk]; exact hseen k rk _ G hG hrk hrbk
                refine SC.skip ?_
                simp -implicitDefEqProofs only [push_cast, ↓reduceIte, Nat.reduceEqDiff, Nat.reduceAdd, Nat.reduceMul, Nat.reduceSub, Nat.reduceLeDiff, Nat.reduceLT, reduceCtorEq]
                refine hK38 _ ?_
                clear hK38
                refine SC.seqN [0, 3, 9, 11, 12, 18, 19, 87, 88, 92, 93] [] fun K39 hK39 => ?_
                refine SC.block ?_
                refine SC.seqN [0, 3, 9, 11, 12, 18, 19, 20, 87, 88, 92, 93] [] fun K40 hK40 => SC.region ?_
                simp -implicitDefEqProofs only [push_cast, ↓reduceIte, Nat.reduceEqDiff, Nat.reduceAdd, Nat.reduceMul, Nat.reduceSub, Nat.reduceLeDiff, Nat.reduceLT, reduceCtorEq]
                refine hK40 _ ?_
                clear hK40
                refine SC.seqN [0, 3, 9, 11, 12, 18, 19, 20, 21, 22, 87, 88, 92, 93] [.l 21, .l 22] fun K41 hK41 => SC.drawnP (.take 0 (.take 1 (.take 2 (.take 3 (.take 5 (.take 7 (.take 8 (.take 9 (.take 10 (.take 12 (.load 4 (.load 11 (.forkE 6 [106] (.fork 13 (.fork 14 (.fork 15 (.fork 16 (.fork 17 (.done) (.stop)) (.stop)) (.stop)) (.fork 15 (.fork 14 (.fork 16 (.fork 17 (.done) (.stop)) (.stop)) (.stop)) (.stop))) (.forkE 14 [106] (.fork 13 (.fork 15 (.fork 16 (.fork 17 (.done) (.stop)) (.stop)) (.stop)) (.forkE 15 [106] (.fork 13 (.fork 16 (.fork 17 (.done) (.stop)) (.stop)) (.stop)) (.stop))) (.forkE 15 [106] (.fork 13 (.fork 14 (.fork 16 (.fork 17 (.done) (.stop)) (.stop)) (.stop)) (.forkE 14 [106] (.fork 13 (.fork 16 (.fork 17 (.done) (.stop)) (.stop)) (.stop)) (.stop))) (.stop)))) (.forkE 14 [99, 106] (.forkE 6 [106] (.fork 13 (.fork 15 (.fork 16 (.fork 17 (.done) (.stop)) (.stop)) (.stop)) (.forkE 15 [106] (.fork 13 (.fork 16 (.fork 17 (.done) (.stop)) (.stop)) (.stop)) (.stop))) (.forkE 15 [99, 106] (.forkE 6 [106] (.fork 13 (.fork 16 (.fork 17 (.done) (.stop)) (.stop)) (.stop)) (.stop)) (.stop))) (.forkE 15 [99, 106] (.forkE 6 [106] (.fork 13 (.fork 14 (.fork 16 (.fork 17 (.done) (.stop)) (.stop)) (.stop)) (.forkE 14 [106] (.fork 13 (.fork 16 (.fork 17 (.done) (.stop)) (.stop)) (.stop)) (.stop))) (.forkE 14 [99, 106] (.forkE 6 [106] (.fork 13 (.fork 16 (.fork 17 (.done) (.stop)) (.stop)) (.stop)) (.stop)) (.stop))) (.stop)))))))))))))))) (by kernel_rfl) (by kernel_rfl) (fun _ _ h => h) ?_
                simp -implicitDefEqProofs only [push_cast, ↓reduceIte, Nat.reduceEqDiff, Nat.reduceAdd, Nat.reduceMul, Nat.reduceSub, Nat.reduceLeDiff, Nat.reduceLT, reduceCtorEq]
                suffices key41 : ∀ (F4 : Fact) (a1 a2 : Option Addr) (c1 c2 : Nat), F4.to F3 → isPl P F4 (plV P.first a1 P.l.length c1 P.done) → isPl Q F4 (plV Q.first a2 Q.l.length c2 Q.done) → K41 ⟨[(0, .v (.slice a l.length c)), (3, .v (.int .i64 t)), (9, .v (.slice aO ps.length cO)), (11, .v (.int .i64 h)), (12, .v (.int .i64 g)), (18, .v (.slice aQ ps.length cQ)), (19, .v (.int .i64 i)), (20, .v (.int .i64 k)), (21, .own (.l 21) 0), (22, .own (.l 22) 0), (87, .v (.int .i64 ps.length)), (88, .v (.int .i64 i)), (92, .v (.int .i64 ps.length)), (93, .v (.int .i64 k))], [(.l 21, .box [.v (.int .i64 P.first), .v (.slice a1 P.l.length c1), .v (.bool P.done)] 27), (.l 22, .box [.v (.int .i64 Q.first), .v (.slice a2 Q.l.length c2), .v (.bool Q.done)] 27)], F4⟩ by
                  clear hK12 hK23 hK30 hK34 hK39 hK41
                  refine ⟨by omega, rowF_some hFO3 (slcs_ne (by omega)), by omega, rowF_some hFO3 (slcs_ne (by omega)), loadRow i hFO3 hri rfl ?_⟩
                  simp -implicitDefEqProofs only [push_cast, ↓reduceIte, Nat.reduceEqDiff, Nat.reduceAdd, Nat.reduceMul, Nat.reduceSub, Nat.reduceLeDiff, Nat.reduceLT, reduceCtorEq]
                  repeat' (first
                    | exact key41 _ _ _ _ _ (Fact.to_left (Fact.to_left (Fact.to_refl _))) ⟨_, _, rfl, by assumption, by first | exact Fact.to_left (Fact.to_right (by assumption)) | exact Fact.to_right (by assumption)⟩ ⟨_, _, rfl, by assumption, by first | exact Fact.to_left (Fact.to_right (by assumption)) | exact Fact.to_right (by assumption)⟩
                    | (with_reducible refine loadRow k hFO3 hrk rfl ?_
                       simp -implicitDefEqProofs only [push_cast, ↓reduceIte, Nat.reduceEqDiff, Nat.reduceAdd, Nat.reduceMul, Nat.reduceSub, Nat.reduceLeDiff, Nat.reduceLT, reduceCtorEq])
                    | (with_reducible refine callL_fn (hci _ (Fact.to_refl _)) ?_ (fun _ h => h) ?_
                       · rfl
                       rintro v _ ⟨_, _, rfl, _, _⟩
                       simp -implicitDefEqProofs only [push_cast, ↓reduceIte, Nat.reduceEqDiff, Nat.reduceAdd, Nat.reduceMul, Nat.reduceSub, Nat.reduceLeDiff, Nat.reduceLT, reduceCtorEq, plV])
                    | (with_reducible refine callL_fn (hci _ (Fact.to_left (Fact.to_refl _))) ?_ (fun _ h => h) ?_
                       · rfl
                       rintro v _ ⟨_, _, rfl, _, _⟩
                       simp -implicitDefEqProofs only [push_cast, ↓reduceIte, Nat.reduceEqDiff, Nat.reduceAdd, Nat.reduceMul, Nat.reduceSub, Nat.reduceLeDiff, Nat.reduceLT, reduceCtorEq, plV])
                    | (with_reducible refine callL_fn (hck _ (Fact.to_refl _)) ?_ (fun _ h => h) ?_
                       · rfl
                       rintro v _ ⟨_, _, rfl, _, _⟩
                       simp -implicitDefEqProofs only [push_cast, ↓reduceIte, Nat.reduceEqDiff, Nat.reduceAdd, Nat.reduceMul, Nat.reduceSub, Nat.reduceLeDiff, Nat.reduceLT, reduceCtorEq, plV])
                    | (with_reducible refine callL_fn (hck _ (Fact.to_left (Fact.to_refl _))) ?_ (fun _ h => h) ?_
                       · rfl
                       rintro v _ ⟨_, _, rfl, _, _⟩
                       simp -implicitDefEqProofs only [push_cast, ↓reduceIte, Nat.reduceEqDiff, Nat.reduceAdd, Nat.reduceMul, Nat.reduceSub, Nat.reduceLeDiff, Nat.reduceLT, reduceCtorEq, plV])
                    | (with_reducible refine And.intro (by omega) ?_)
                    | (with_reducible refine And.intro ?_ ?_)
                    | intro h
                    | exact rfl)
                intro F4 a1 a2 c1 c2 hF4 hpP hpQ
                have hFQ4 := Fact.to_trans hF4 hFQ
                have hb0 := right_bd (stream_right hT.st l[0] (List.getElem_mem _))
                have hs0 := stream_at hT.st hl0
                have hPn : P.next = seenF l + ni := by rw [hP]; exact pn_next hnil
                have hQn : Q.next = seenF l + nk := by rw [hQ]; exact pn_next hnkl
                have hPk : P.Ok := ⟨by rw [hP, pn_len hnil]; omega, by rw [hP]; show _ ≤ seenF l; omega, by rw [hP]; show seenF l ≤ _; omega⟩
                have hQk : Q.Ok := ⟨by rw [hQ, pn_len hnkl]; omega, by rw [hQ]; show _ ≤ seenF l; omega, by rw [hQ]; show seenF l ≤ _; omega⟩
                have hPl : P.l.length ≤ 1000 := by rw [hP, pn_len hnil]; omega
                have hQl : Q.l.length ≤ 1000 := by rw [hQ, pn_len hnkl]; omega
                have hPs : ∀ s ∈ P.l, s.Ok := fun s hs => stream_ok hT.st s (List.mem_of_mem_take (by rw [hP] at hs; exact hs))
                have hQs : ∀ s ∈ Q.l, s.Ok := fun s hs => stream_ok hT.st s (List.mem_of_mem_take (by rw [hQ] at hs; exact hs))
                have hmk : dep ps k * h ≤ max (dep ps i) (dep ps k) * h := Int.mul_le_mul_of_nonneg_right (by omega) hh0
                have hm0 : 0 ≤ max (dep ps i) (dep ps k) * h := Int.mul_nonneg (by omega) hh0
                have hgap := gap_law (t := t) hT.st hrbi hrbk hmk hm0 hg0.1 hlong
                rw [← hni, ← hnk] at hgap
                have hdec : decide ((max (dep ps i) (dep ps k) * h + g - 1) / g < P.next - Q.next) = false := decide_eq_false (by omega)
                have cG := gap_fn (max (dep ps i) (dep ps k)) h g F4 (by omega) (by omega) (by omega)
                have hmg : mergeP P Q 100 = (pn l (max ni nk), 0) := by rw [hP, hQ]; exact pn_merge hT.st (by omega) hnil hnkl
                obtain ⟨R, hR⟩ : ∃ R, R = pn l (max ni nk) := ⟨_, rfl⟩
                rw [← hR] at hmg
                have hRn : R.next = seenF l + (max ni nk : Nat) := by rw [hR]; exact pn_next (by omega)
                have hRk : R.Ok := ⟨by rw [hR, pn_len (by omega)]; omega, by rw [hR]; show _ ≤ seenF l; omega, by rw [hR]; show seenF l ≤ _; omega⟩
                refine hK41 _ ?_
                clear hK41
                refine SC.seqN [0, 3, 9, 11, 12, 18, 19, 21, 22, 87, 88, 92, 93] [.l 21, .l 22] fun K42 hK42 => ?_
                refine SC.seqN [0, 3, 9, 11, 12, 18, 19, 21, 22, 87, 88, 92, 93, 127] [.l 21, .l 22] fun K43 hK43 => SC.drawnP (.take 5 (.take 6 (.take 7 (.take 9 (.take 10 (.take 11 (.take 14 (.take 15 (.load 0 (.load 2 (.load 8 (.load 12 (.take 13 (.forkE 1 [22, 117, 121] (.forkE 3 [117, 121] (.take 4 (.forkE 16 [117, 121] (.take 17 (.done)) (.stop))) (.stop)) (.stop))))))))))))))) (by kernel_rfl) (by kernel_rfl) (fun _ _ h => h) ?_
                simp -implicitDefEqProofs only [push_cast, ↓reduceIte, Nat.reduceEqDiff, Nat.reduceAdd, Nat.reduceMul, Nat.reduceSub, Nat.reduceLeDiff, Nat.reduceLT, reduceCtorEq]
                suffices key43 : K43 ⟨[(0, .v (.slice a l.length c)), (3, .v (.int .i64 t)), (9, .v (.slice aO ps.length cO)), (11, .v (.int .i64 h)), (12, .v (.int .i64 g)), (18, .v (.slice aQ ps.length cQ)), (19, .v (.int .i64 i)), (21, .own (.l 21) 0), (22, .own (.l 22) 0), (87, .v (.int .i64 ps.length)), (88, .v (.int .i64 i)), (92, .v (.int .i64 ps.length)), (93, .v (.int .i64 k)), (127, .v (.bool false))], [(.l 21, .box [.v (.int .i64 P.first), .v (.slice a1 P.l.length c1), .v (.bool P.done)] 27), (.l 22, .box [.v (.int .i64 Q.first), .v (.slice a2 Q.l.length c2), .v (.bool Q.done)] 27)], F4⟩ by
                  clear hK12 hK23 hK30 hK34 hK39 hK42 hK43
                  refine ⟨by omega, rowF_some hFQ4 (ints_ne (by rw [deps_length]; omega)), by omega, rowF_some hFQ4 (ints_ne (by rw [deps_length]; omega)), loadInt i hFQ4 hgi rfl ?_⟩
                  simp -implicitDefEqProofs only [push_cast, ↓reduceIte, Nat.reduceEqDiff, Nat.reduceAdd, Nat.reduceMul, Nat.reduceSub, Nat.reduceLeDiff, Nat.reduceLT, reduceCtorEq]
                  repeat' (first
                    | exact key43
                    | (rw [hdec, SV.q_false]
                       exact key43)
                    | (with_reducible refine loadInt k hFQ4 hgk rfl ?_
                       simp -implicitDefEqProofs only [push_cast, ↓reduceIte, Nat.reduceEqDiff, Nat.reduceAdd, Nat.reduceMul, Nat.reduceSub, Nat.reduceLeDiff, Nat.reduceLT, reduceCtorEq])
                    | (with_reducible refine callL_fn0 (next_fn P _ F4 hpP hPk) ?_ (fun _ h => h) ?_
                       · rfl
                       intro v G hv
                       subst hv
                       simp -implicitDefEqProofs only [push_cast, ↓reduceIte, Nat.reduceEqDiff, Nat.reduceAdd, Nat.reduceMul, Nat.reduceSub, Nat.reduceLeDiff, Nat.reduceLT, reduceCtorEq])
                    | (with_reducible refine callL_fn0 (next_fn Q _ F4 hpQ hQk) ?_ (fun _ h => h) ?_
                       · rfl
                       intro v G hv
                       subst hv
                       simp -implicitDefEqProofs only [push_cast, ↓reduceIte, Nat.reduceEqDiff, Nat.reduceAdd, Nat.reduceMul, Nat.reduceSub, Nat.reduceLeDiff, Nat.reduceLT, reduceCtorEq])
                    | (with_reducible refine callL_fn0 (cG) ?_ (fun _ h => h) ?_
                       · rfl
                       intro v G hv
                       subst hv
                       simp -implicitDefEqProofs only [push_cast, ↓reduceIte, Nat.reduceEqDiff, Nat.reduceAdd, Nat.reduceMul, Nat.reduceSub, Nat.reduceLeDiff, Nat.reduceLT, reduceCtorEq])
                    | (with_reducible refine And.intro (by omega) ?_)
                    | (with_reducible refine And.intro ?_ ?_)
                    | intro h
                    | exact rfl)
                skip
                refine hK43 _ ?_
                clear hK43
                refine SC.cond ?_
                simp -implicitDefEqProofs only [push_cast, ↓reduceIte, Nat.reduceEqDiff, Nat.reduceAdd, Nat.reduceMul, Nat.reduceSub, Nat.reduceLeDiff, Nat.reduceLT, reduceCtorEq]
                refine SC.skip ?_
                simp -implicitDefEqProofs only [push_cast, ↓reduceIte, Nat.reduceEqDiff, Nat.reduceAdd, Nat.reduceMul, Nat.reduceSub, Nat.reduceLeDiff, Nat.reduceLT, reduceCtorEq]
                refine hK42 _ ?_
                clear hK42
                refine SC.seqN [0, 3, 9, 11, 12, 18, 19, 21, 22, 23, 24, 87, 88, 92, 93] [.l 21, .l 22, .l 23] fun K44 hK44 => SC.region ?_
                simp -implicitDefEqProofs only [push_cast, ↓reduceIte, Nat.reduceEqDiff, Nat.reduceAdd, Nat.reduceMul, Nat.reduceSub, Nat.reduceLeDiff, Nat.reduceLT, reduceCtorEq]
                suffices key44 : ∀ (F5 : Fact) (a3 : Option Addr) (c3 : Nat), F5.to F4 → isPl R F5 (plV R.first a3 R.l.length c3 R.done) → K44 ⟨[(0, .v (.slice a l.length c)), (3, .v (.int .i64 t)), (9, .v (.slice aO ps.length cO)), (11, .v (.int .i64 h)), (12, .v (.int .i64 g)), (18, .v (.slice aQ ps.length cQ)), (19, .v (.int .i64 i)), (21, .own (.l 21) 0), (22, .own (.l 22) 0), (23, .own (.l 23) 0), (24, .v (.int .i64 0)), (87, .v (.int .i64 ps.length)), (88, .v (.int .i64 i)), (92, .v (.int .i64 ps.length)), (93, .v (.int .i64 k))], [(.l 21, .box [.v (.int .i64 P.first), .v (.slice a1 P.l.length c1), .v (.bool P.done)] 27), (.l 22, .box [.v (.int .i64 Q.first), .v (.slice a2 Q.l.length c2), .v (.bool Q.done)] 27), (.l 23, .box [.v (.int .i64 R.first), .v (.slice a3 R.l.length c3), .v (.bool R.done)] 27)], F5⟩ by
                  clear hK12 hK23 hK30 hK34 hK39 hK44
                  refine callL_fn (merge_fn P Q _ _ 100 F4 hpP hpQ hPk hQk hPl hQl hPs hQs) rfl (fun _ h => h) ?_
                  rintro v G2 ⟨pv, rfl, hpv⟩
                  rw [hmg] at hpv ⊢
                  obtain ⟨a3, c3, rfl, hc3, hG3⟩ := hpv
                  simp -implicitDefEqProofs only [push_cast, ↓reduceIte, Nat.reduceEqDiff, Nat.reduceAdd, Nat.reduceMul, Nat.reduceSub, Nat.reduceLeDiff, Nat.reduceLT, reduceCtorEq, plV]
                  exact key44 _ a3 c3 (Fact.to_left (Fact.to_refl _)) ⟨a3, c3, rfl, hc3, Fact.to_right hG3⟩
                intro F5 a3 c3 hF5 hpR
                refine hK44 _ ?_
                clear hK44
                refine SC.seqN [0, 3, 9, 11, 12, 18, 19, 87, 88, 92, 93, 145] [] fun K45 hK45 => SC.drawnP (.take 0 (.take 1 (.take 2 (.load 3 (.load 5 (.load 7 (.forkE 4 [21, 22] (.forkE 6 [22] (.fork 8 (.take 9 (.take 10 (.take 11 (.done)))) (.stop)) (.stop)) (.stop)))))))) (by kernel_rfl) (by kernel_rfl) (fun _ _ h => h) ?_
                simp -implicitDefEqProofs only [push_cast, ↓reduceIte, Nat.reduceEqDiff, Nat.reduceAdd, Nat.reduceMul, Nat.reduceSub, Nat.reduceLeDiff, Nat.reduceLT, reduceCtorEq, Int.reduceToNat, Int.reduceAdd, Int.reduceLT, Int.reduceLE, Nat.reduceMul, Nat.reduceAdd, Nat.zero_mul, Nat.one_mul, Nat.mul_one, List.drop_zero, List.drop_succ_cons, List.take_zero, List.take_succ_cons, Int.toNat_zero, Int.toNat_one, and_self, true_and, Int.cast_ofNat_Int, Int.natCast_one, Int.zero_add, Nat.le_refl, Nat.reduceLeDiff, Nat.reduceLT, Int.ofNat_eq_natCast, Int.natCast_zero, Int.reduceMul, Int.reduceSub, decide_true, decide_false, SV.q_true, SV.q_false]
                suffices key45 : K45 ⟨[(0, .v (.slice a l.length c)), (3, .v (.int .i64 t)), (9, .v (.slice aO ps.length cO)), (11, .v (.int .i64 h)), (12, .v (.int .i64 g)), (18, .v (.slice aQ ps.length cQ)), (19, .v (.int .i64 i)), (87, .v (.int .i64 ps.length)), (88, .v (.int .i64 i)), (92, .v (.int .i64 ps.length)), (93, .v (.int .i64 k)), (145, .v (.bool false))], [], F5⟩ by
                  clear hK12 hK23 hK30 hK34 hK39 hK45
                  have hdec2 : decide (¬ R.next = max P.next Q.next) = false := decide_eq_false (by omega)
                  have hpP5 := hpP.to hF5
                  have hpQ5 := hpQ.to hF5
                  repeat' (first
                    | exact key45
                    | (rw [hdec2, SV.q_false]
                       exact key45)
                    | (with_reducible refine callL_fn0 (next_fn R _ F5 hpR hRk) ?_ (fun _ h => h) ?_
                       · rfl
                       intro v G hv
                       subst hv
                       simp -implicitDefEqProofs only [push_cast, ↓reduceIte, Nat.reduceEqDiff, Nat.reduceAdd, Nat.reduceMul, Nat.reduceSub, Nat.reduceLeDiff, Nat.reduceLT, reduceCtorEq])
                    | (with_reducible refine callL_fn0 (next_fn P _ F5 hpP5 hPk) ?_ (fun _ h => h) ?_
                       · rfl
                       intro v G hv
                       subst hv
                       simp -implicitDefEqProofs only [push_cast, ↓reduceIte, Nat.reduceEqDiff, Nat.reduceAdd, Nat.reduceMul, Nat.reduceSub, Nat.reduceLeDiff, Nat.reduceLT, reduceCtorEq])
                    | (with_reducible refine callL_fn0 (next_fn Q _ F5 hpQ5 hQk) ?_ (fun _ h => h) ?_
                       · rfl
                       intro v G hv
                       subst hv
                       simp -implicitDefEqProofs only [push_cast, ↓reduceIte, Nat.reduceEqDiff, Nat.reduceAdd, Nat.reduceMul, Nat.reduceSub, Nat.reduceLeDiff, Nat.reduceLT, reduceCtorEq])
                    | (with_reducible refine And.intro (by omega) ?_)
                    | (with_reducible refine And.intro ?_ ?_)
                    | intro h
                    | exact rfl)
                skip
                refine hK45 _ ?_
                clear hK45
                refine SC.cond ?_
                simp -implicitDefEqProofs only [push_cast, ↓reduceIte, Nat.reduceEqDiff, Nat.reduceAdd, Nat.reduceMul, Nat.reduceSub, Nat.reduceLeDiff, Nat.reduceLT, reduceCtorEq]
                refine SC.skip ?_
                simp -implicitDefEqProofs only [push_cast, ↓reduceIte, Nat.reduceEqDiff, Nat.reduceAdd, Nat.reduceMul, Nat.reduceSub, Nat.reduceLeDiff, Nat.reduceLT, reduceCtorEq]
                refine hK39 _ ?_
                clear hK39
                refine SC.region ?_
                simp -implicitDefEqProofs only [push_cast, ↓reduceIte, Nat.reduceEqDiff, Nat.reduceAdd, Nat.reduceMul, Nat.reduceSub, Nat.reduceLeDiff, Nat.reduceLT, reduceCtorEq]
                refine ⟨by omega, k + 1, by omega, by omega, Le.trans (Le.norm _ [0, 3, 9, 11, 12, 18, 19, 87, 88, 92, 93] []) ?_⟩
                simp -implicitDefEqProofs only [push_cast, ↓reduceIte, Nat.reduceEqDiff, Nat.reduceAdd, Nat.reduceMul, Nat.reduceSub, Nat.reduceLeDiff, Nat.reduceLT, reduceCtorEq]
                exact Le.fact (fun s h => hF4 s (hF5 s h))
              · skip
                refine SC.exit ?_
                simp -implicitDefEqProofs only [push_cast, ↓reduceIte, Nat.reduceEqDiff, Nat.reduceAdd, Nat.reduceMul, Nat.reduceSub, Nat.reduceLeDiff, Nat.reduceLT, reduceCtorEq]
                refine hK34 _ ?_
                clear hK34
                refine SC.region ?_
                simp -implicitDefEqProofs only [push_cast, ↓reduceIte, Nat.reduceEqDiff, Nat.reduceAdd, Nat.reduceMul, Nat.reduceSub, Nat.reduceLeDiff, Nat.reduceLT, reduceCtorEq]
                refine ⟨by omega, i + 1, by omega, by omega, Le.trans (Le.norm _ [0, 3, 9, 11, 12, 18, 87, 88] []) ?_⟩
                simp -implicitDefEqProofs only [push_cast, ↓reduceIte, Nat.reduceEqDiff, Nat.reduceAdd, Nat.reduceMul, Nat.reduceSub, Nat.reduceLeDiff, Nat.reduceLT, reduceCtorEq]
                exact Le.refl _
            · skip
              refine SC.exit ?_
              simp -implicitDefEqProofs only [push_cast, ↓reduceIte, Nat.reduceEqDiff, Nat.reduceAdd, Nat.reduceMul, Nat.reduceSub, Nat.reduceLeDiff, Nat.reduceLT, reduceCtorEq]
              refine hK30 _ ?_
              clear hK30
              refine SC.seqN [8] [] fun K46 hK46 => SC.region ?_
              simp -implicitDefEqProofs only [push_cast, ↓reduceIte, Nat.reduceEqDiff, Nat.reduceAdd, Nat.reduceMul, Nat.reduceSub, Nat.reduceLeDiff, Nat.reduceLT, reduceCtorEq]
              refine callL_fn0 (sanity_fn F3 hl3) rfl (fun _ h => h) fun v G hv => ?_
              subst hv
              simp -implicitDefEqProofs only [push_cast, ↓reduceIte, Nat.reduceEqDiff, Nat.reduceAdd, Nat.reduceMul, Nat.reduceSub, Nat.reduceLeDiff, Nat.reduceLT, reduceCtorEq]
              refine hK46 _ ?_
              clear hK46
              refine SC.ret ?_
              simp -implicitDefEqProofs only [push_cast, ↓reduceIte, Nat.reduceEqDiff, Nat.reduceAdd, Nat.reduceMul, Nat.reduceSub, Nat.reduceLeDiff, Nat.reduceLT, reduceCtorEq, Tryd.f6]
end Go.Proofs.YtmamodnpghlgcaaDoor
