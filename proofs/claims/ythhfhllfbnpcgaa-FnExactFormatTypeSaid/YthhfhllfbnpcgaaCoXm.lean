/- What the functions come to that write a type. -/
import Derived.Test.YthhfhllfbnpcgaaCoXh
import Derived.Test.YthhfhllfbnpcgaaCoTc
namespace Go.Proofs.Ythhfhllfbnpcgaa.Co
open Go
set_option maxRecDepth 100000
set_option linter.unusedSimpArgs false
set_option linter.unusedVariables false
mutual
def textT : Ty → ByteArray
  | .mk k xs => if k = 1 then ⟨#[63]⟩ else if k = 2 then ⟨#[78]⟩ else if k = 3 then ⟨#[66]⟩ else ⟨#[40]⟩ ++ (textTs xs).getD 0 ByteArray.empty ++ (if k = 4 then ⟨#[62]⟩ else ⟨#[42]⟩) ++ (textTs xs).getD 1 ByteArray.empty ++ ⟨#[41]⟩
def textTs : List Ty → List ByteArray
  | [] => []
  | t :: ts => textT t :: textTs ts
end
theorem ba1 (x : UInt8) : (ByteArray.mk #[x]).size = 1 := rfl
theorem textTs_get : ∀ (xs : List Ty) (i : Nat) (h : i < xs.length), (textTs xs)[i]?.getD ByteArray.empty = textT xs[i]
  | x :: xs, 0, _ => rfl
  | x :: xs, i + 1, h => by
    rw [textTs, List.getElem?_cons_succ, List.getElem_cons_succ]
    exact textTs_get xs i (Nat.lt_of_succ_lt_succ h)
theorem textT_size (t : Ty) : formT t = true → (textT t).size ≤ 3 * sizeT t := by
  induction t using Ty.ind with
  | h k xs ih =>
  intro hf
  rcases form_two hf with ⟨hk, rfl⟩ | ⟨hk, a, b, rfl, fa, fb⟩
  · rcases hk with rfl | rfl | rfl <;> simp [textT, ba1, sizeT, sizeTs]
  · have ha := ih a (by simp) fa
    have hb := ih b (by simp) fb
    have e0 : (textTs [a, b])[0]?.getD ByteArray.empty = textT a := rfl
    have e1 : (textTs [a, b])[1]?.getD ByteArray.empty = textT b := rfl
    simp only [sizeT, sizeTs]
    rcases hk with rfl | rfl <;> simp [textT, e0, e1, ByteArray.size_append, ba1] <;> omega
def fmtT (t : Ty) : ByteArray := if validB t = true then textT t else ByteArray.empty
theorem ac_l4Text (t : Ty) : sizeT t ≤ 1099511627776 → formT t = true → AC Try.prog 67 [] [vT t] (fun r _ _ => r = rS (textT t)) := by
  induction t using Ty.ind with
  | h k xs ih =>
  intro h hf
  simp only [sizeT] at h
  refine AC.pure' Try.func67 (show Try.f67.body = some _ from rfl) (show _ = [ResultVar.tmp 2] from rfl) rfl mixed rfl (by first | exact Nat.le_of_ble_eq_true rfl | exact Nat.zero_le _) rfl ?_
  rcases form_two hf with ⟨hkk, hxx⟩ | ⟨hkk, a, b, hxx, _, _⟩
  · rcases hkk with rfl | rfl | rfl <;>
    · simp -implicitDefEqProofs (disch := first | omega | (simp -implicitDefEqProofs only [NXQ, Nat.reduceAdd, Nat.reduceMul, Nat.reduceBEq, Nat.reduceEqDiff, Nat.reduceLT, Nat.reduceLeDiff, ne_eq, not_true_eq_false, not_false_eq_true, decide_true, Bool.and_self, beq_self_eq_true]; done) | (simp -implicitDefEqProofs only [NXQ, Nat.reduceAdd, Nat.reduceMul, Nat.reduceBEq, Nat.reduceEqDiff, Nat.reduceLT, Nat.reduceLeDiff, ne_eq, not_true_eq_false, not_false_eq_true, decide_true, Bool.and_self, beq_self_eq_true]; omega) | fail) only [EQ0, EQ1, EQ2, EQ3, EQ4, EQ5, EQ6, EQ7, EQ8, EQ9, EQ10, ↓reduceIte, Nat.reduceBEq, Nat.reduceAdd, Nat.reduceLeDiff, Nat.reduceEqDiff, Nat.reduceSub, reduceCtorEq, Nat.reduceLT, Int.reduceNe, Int.reduceEq, ne_eq, not_false_eq_true, bne_self_eq_false, beq_self_eq_true, startR, flTL, slotL, TL.zl, startRO, startL, startTL, startBox, viewsOf, flsOf, tlsOf, RS.fls, boxT, sepB, FL.isO, tagIs, tagOf, TY, ty_kind, ty_args, DEC]
      rfl
  · have hl : xs.length = 2 := by rw [hxx]; rfl
    have l0 : 0 < xs.length := by omega
    have l1 : 1 < xs.length := by omega
    have tz : Int.toNat 0 = 0 := rfl
    have to : Int.toNat 1 = 1 := rfl
    have cz : (0 : Int) < ((2 : Nat) : Int) := by decide
    have co : (1 : Int) < ((2 : Nat) : Int) := by decide
    have r0 := rowAt_encTs xs 0 l0
    have r1 := rowAt_encTs xs 1 l1
    have g0 := textTs_get xs 0 l0
    have g1 := textTs_get xs 1 l1
    have m0 := sizeT_mem (List.getElem_mem l0)
    have m1 := sizeT_mem (List.getElem_mem l1)
    have hk := form_kids hf
    have f0 := hk _ (List.getElem_mem l0)
    have f1 := hk _ (List.getElem_mem l1)
    have s0 := textT_size _ f0
    have s1 := textT_size _ f1
    have i0 := ih xs[0] (List.getElem_mem l0) (by omega) f0
    have i1 := ih xs[1] (List.getElem_mem l1) (by omega) f1
    clear hxx hk
    rcases hkk with rfl | rfl <;>
    · simp -implicitDefEqProofs (disch := first | omega | (simp -implicitDefEqProofs only [NXQ, Nat.reduceAdd, Nat.reduceMul, Nat.reduceBEq, Nat.reduceEqDiff, Nat.reduceLT, Nat.reduceLeDiff, ne_eq, not_true_eq_false, not_false_eq_true, decide_true, Bool.and_self, beq_self_eq_true]; done) | (simp -implicitDefEqProofs only [NXQ, Nat.reduceAdd, Nat.reduceMul, Nat.reduceBEq, Nat.reduceEqDiff, Nat.reduceLT, Nat.reduceLeDiff, ne_eq, not_true_eq_false, not_false_eq_true, decide_true, Bool.and_self, beq_self_eq_true]; omega) | fail) only [EQ0, EQ1, EQ2, EQ3, EQ4, EQ5, EQ6, EQ7, EQ8, EQ9, EQ10, ↓reduceIte, Nat.reduceBEq, Nat.reduceAdd, Nat.reduceLeDiff, Nat.reduceEqDiff, Nat.reduceSub, reduceCtorEq, Nat.reduceLT, Int.reduceNe, Int.reduceEq, ne_eq, not_false_eq_true, bne_self_eq_false, beq_self_eq_true, startR, flTL, slotL, TL.zl, startRO, startL, startTL, startBox, viewsOf, flsOf, tlsOf, RS.fls, boxT, sepB, FL.isO, tagIs, tagOf, TY, ty_kind, ty_args, DEC]
      refine draw_by [0, 1, 2, 3, 7, 8, 9, 10, 4, 5, 6, 11, 12, 13, 14] rfl ?_
      simp -implicitDefEqProofs (disch := first | omega | (simp -implicitDefEqProofs only [NXQ, Nat.reduceAdd, Nat.reduceMul, Nat.reduceBEq, Nat.reduceEqDiff, Nat.reduceLT, Nat.reduceLeDiff, ne_eq, not_true_eq_false, not_false_eq_true, decide_true, Bool.and_self, beq_self_eq_true]; done) | (simp -implicitDefEqProofs only [NXQ, Nat.reduceAdd, Nat.reduceMul, Nat.reduceBEq, Nat.reduceEqDiff, Nat.reduceLT, Nat.reduceLeDiff, ne_eq, not_true_eq_false, not_false_eq_true, decide_true, Bool.and_self, beq_self_eq_true]; omega) | fail) only [EQ0, EQ1, EQ2, EQ3, EQ4, EQ5, EQ6, EQ7, EQ8, EQ9, EQ10, ↓reduceIte, Nat.reduceBEq, Nat.reduceAdd, Nat.reduceLeDiff, Nat.reduceEqDiff, Nat.reduceSub, reduceCtorEq, Nat.reduceLT, Int.reduceNe, Int.reduceEq, ne_eq, not_false_eq_true, bne_self_eq_false, beq_self_eq_true, startR, flTL, slotL, TL.zl, startRO, startL, startTL, startBox, viewsOf, flsOf, tlsOf, RS.fls, boxT, sepB, FL.isO, tagIs, tagOf, TY, ty_kind, ty_args, encTs_len, r0, r1, hl, tz, to, cz, co]
      refine ⟨by omega, by omega, call_by i0 rfl ?_⟩
      rintro _ _ _ rfl
      simp -implicitDefEqProofs (disch := first | omega | (simp -implicitDefEqProofs only [NXQ, Nat.reduceAdd, Nat.reduceMul, Nat.reduceBEq, Nat.reduceEqDiff, Nat.reduceLT, Nat.reduceLeDiff, ne_eq, not_true_eq_false, not_false_eq_true, decide_true, Bool.and_self, beq_self_eq_true]; done) | (simp -implicitDefEqProofs only [NXQ, Nat.reduceAdd, Nat.reduceMul, Nat.reduceBEq, Nat.reduceEqDiff, Nat.reduceLT, Nat.reduceLeDiff, ne_eq, not_true_eq_false, not_false_eq_true, decide_true, Bool.and_self, beq_self_eq_true]; omega) | fail) only [EQ0, EQ1, EQ2, EQ3, EQ4, EQ5, EQ6, EQ7, EQ8, EQ9, EQ10, ↓reduceIte, Nat.reduceBEq, Nat.reduceAdd, Nat.reduceLeDiff, Nat.reduceEqDiff, Nat.reduceSub, reduceCtorEq, Nat.reduceLT, Int.reduceNe, Int.reduceEq, ne_eq, not_false_eq_true, bne_self_eq_false, beq_self_eq_true, startR, flTL, slotL, TL.zl, startRO, startL, startTL, startBox, viewsOf, flsOf, tlsOf, RS.fls, boxT, sepB, FL.isO, tagIs, tagOf, TY, ByteArray.size_append, ba1]
      refine ⟨by omega, by omega, call_by i1 rfl ?_⟩
      rintro _ _ _ rfl
      simp -implicitDefEqProofs (disch := first | omega | (simp -implicitDefEqProofs only [NXQ, Nat.reduceAdd, Nat.reduceMul, Nat.reduceBEq, Nat.reduceEqDiff, Nat.reduceLT, Nat.reduceLeDiff, ne_eq, not_true_eq_false, not_false_eq_true, decide_true, Bool.and_self, beq_self_eq_true]; done) | (simp -implicitDefEqProofs only [NXQ, Nat.reduceAdd, Nat.reduceMul, Nat.reduceBEq, Nat.reduceEqDiff, Nat.reduceLT, Nat.reduceLeDiff, ne_eq, not_true_eq_false, not_false_eq_true, decide_true, Bool.and_self, beq_self_eq_true]; omega) | fail) only [EQ0, EQ1, EQ2, EQ3, EQ4, EQ5, EQ6, EQ7, EQ8, EQ9, EQ10, ↓reduceIte, Nat.reduceBEq, Nat.reduceAdd, Nat.reduceLeDiff, Nat.reduceEqDiff, Nat.reduceSub, reduceCtorEq, Nat.reduceLT, Int.reduceNe, Int.reduceEq, ne_eq, not_false_eq_true, bne_self_eq_false, beq_self_eq_true, startR, flTL, slotL, TL.zl, startRO, startL, startTL, startBox, viewsOf, flsOf, tlsOf, RS.fls, boxT, sepB, FL.isO, tagIs, tagOf, TY, ByteArray.size_append, ba1]
      refine ⟨by omega, by omega, ?_⟩
      simp [textT, g0, g1]
theorem ac_typeText (t : Ty) : sizeT t ≤ 1099511627776 → formT t = true → AC Try.prog 68 [] [vT t] (fun r _ _ => r = rS (textT t)) := by
  induction t using Ty.ind with
  | h k xs ih =>
  intro h hf
  simp only [sizeT] at h
  refine AC.pure' Try.func68 (show Try.f68.body = some _ from rfl) (show _ = [ResultVar.tmp 2] from rfl) rfl mixed rfl (by first | exact Nat.le_of_ble_eq_true rfl | exact Nat.zero_le _) rfl ?_
  rcases form_two hf with ⟨hkk, hxx⟩ | ⟨hkk, a, b, hxx, _, _⟩
  · rcases hkk with rfl | rfl | rfl <;>
    · simp -implicitDefEqProofs (disch := first | omega | (simp -implicitDefEqProofs only [NXQ, Nat.reduceAdd, Nat.reduceMul, Nat.reduceBEq, Nat.reduceEqDiff, Nat.reduceLT, Nat.reduceLeDiff, ne_eq, not_true_eq_false, not_false_eq_true, decide_true, Bool.and_self, beq_self_eq_true]; done) | (simp -implicitDefEqProofs only [NXQ, Nat.reduceAdd, Nat.reduceMul, Nat.reduceBEq, Nat.reduceEqDiff, Nat.reduceLT, Nat.reduceLeDiff, ne_eq, not_true_eq_false, not_false_eq_true, decide_true, Bool.and_self, beq_self_eq_true]; omega) | fail) only [EQ0, EQ1, EQ2, EQ3, EQ4, EQ5, EQ6, EQ7, EQ8, EQ9, EQ10, ↓reduceIte, Nat.reduceBEq, Nat.reduceAdd, Nat.reduceLeDiff, Nat.reduceEqDiff, Nat.reduceSub, reduceCtorEq, Nat.reduceLT, Int.reduceNe, Int.reduceEq, ne_eq, not_false_eq_true, bne_self_eq_false, beq_self_eq_true, startR, flTL, slotL, TL.zl, startRO, startL, startTL, startBox, viewsOf, flsOf, tlsOf, RS.fls, boxT, sepB, FL.isO, tagIs, tagOf, TY, ty_kind, ty_args, DEC]
      rfl
  · have hl : xs.length = 2 := by rw [hxx]; rfl
    have l0 : 0 < xs.length := by omega
    have l1 : 1 < xs.length := by omega
    have tz : Int.toNat 0 = 0 := rfl
    have to : Int.toNat 1 = 1 := rfl
    have cz : (0 : Int) < ((2 : Nat) : Int) := by decide
    have co : (1 : Int) < ((2 : Nat) : Int) := by decide
    have r0 := rowAt_encTs xs 0 l0
    have r1 := rowAt_encTs xs 1 l1
    have g0 := textTs_get xs 0 l0
    have g1 := textTs_get xs 1 l1
    have m0 := sizeT_mem (List.getElem_mem l0)
    have m1 := sizeT_mem (List.getElem_mem l1)
    have hk := form_kids hf
    have f0 := hk _ (List.getElem_mem l0)
    have f1 := hk _ (List.getElem_mem l1)
    have s0 := textT_size _ f0
    have s1 := textT_size _ f1
    have i0 := ih xs[0] (List.getElem_mem l0) (by omega) f0
    have i1 := ih xs[1] (List.getElem_mem l1) (by omega) f1
    clear hxx hk
    rcases hkk with rfl | rfl <;>
    · simp -implicitDefEqProofs (disch := first | omega | (simp -implicitDefEqProofs only [NXQ, Nat.reduceAdd, Nat.reduceMul, Nat.reduceBEq, Nat.reduceEqDiff, Nat.reduceLT, Nat.reduceLeDiff, ne_eq, not_true_eq_false, not_false_eq_true, decide_true, Bool.and_self, beq_self_eq_true]; done) | (simp -implicitDefEqProofs only [NXQ, Nat.reduceAdd, Nat.reduceMul, Nat.reduceBEq, Nat.reduceEqDiff, Nat.reduceLT, Nat.reduceLeDiff, ne_eq, not_true_eq_false, not_false_eq_true, decide_true, Bool.and_self, beq_self_eq_true]; omega) | fail) only [EQ0, EQ1, EQ2, EQ3, EQ4, EQ5, EQ6, EQ7, EQ8, EQ9, EQ10, ↓reduceIte, Nat.reduceBEq, Nat.reduceAdd, Nat.reduceLeDiff, Nat.reduceEqDiff, Nat.reduceSub, reduceCtorEq, Nat.reduceLT, Int.reduceNe, Int.reduceEq, ne_eq, not_false_eq_true, bne_self_eq_false, beq_self_eq_true, startR, flTL, slotL, TL.zl, startRO, startL, startTL, startBox, viewsOf, flsOf, tlsOf, RS.fls, boxT, sepB, FL.isO, tagIs, tagOf, TY, ty_kind, ty_args, DEC]
      refine draw_by [0, 1, 2, 3, 7, 8, 9, 10, 4, 5, 6, 11, 12, 13, 14] rfl ?_
      simp -implicitDefEqProofs (disch := first | omega | (simp -implicitDefEqProofs only [NXQ, Nat.reduceAdd, Nat.reduceMul, Nat.reduceBEq, Nat.reduceEqDiff, Nat.reduceLT, Nat.reduceLeDiff, ne_eq, not_true_eq_false, not_false_eq_true, decide_true, Bool.and_self, beq_self_eq_true]; done) | (simp -implicitDefEqProofs only [NXQ, Nat.reduceAdd, Nat.reduceMul, Nat.reduceBEq, Nat.reduceEqDiff, Nat.reduceLT, Nat.reduceLeDiff, ne_eq, not_true_eq_false, not_false_eq_true, decide_true, Bool.and_self, beq_self_eq_true]; omega) | fail) only [EQ0, EQ1, EQ2, EQ3, EQ4, EQ5, EQ6, EQ7, EQ8, EQ9, EQ10, ↓reduceIte, Nat.reduceBEq, Nat.reduceAdd, Nat.reduceLeDiff, Nat.reduceEqDiff, Nat.reduceSub, reduceCtorEq, Nat.reduceLT, Int.reduceNe, Int.reduceEq, ne_eq, not_false_eq_true, bne_self_eq_false, beq_self_eq_true, startR, flTL, slotL, TL.zl, startRO, startL, startTL, startBox, viewsOf, flsOf, tlsOf, RS.fls, boxT, sepB, FL.isO, tagIs, tagOf, TY, ty_kind, ty_args, encTs_len, r0, r1, hl, tz, to, cz, co]
      refine ⟨by omega, by omega, call_by i0 rfl ?_⟩
      rintro _ _ _ rfl
      simp -implicitDefEqProofs (disch := first | omega | (simp -implicitDefEqProofs only [NXQ, Nat.reduceAdd, Nat.reduceMul, Nat.reduceBEq, Nat.reduceEqDiff, Nat.reduceLT, Nat.reduceLeDiff, ne_eq, not_true_eq_false, not_false_eq_true, decide_true, Bool.and_self, beq_self_eq_true]; done) | (simp -implicitDefEqProofs only [NXQ, Nat.reduceAdd, Nat.reduceMul, Nat.reduceBEq, Nat.reduceEqDiff, Nat.reduceLT, Nat.reduceLeDiff, ne_eq, not_true_eq_false, not_false_eq_true, decide_true, Bool.and_self, beq_self_eq_true]; omega) | fail) only [EQ0, EQ1, EQ2, EQ3, EQ4, EQ5, EQ6, EQ7, EQ8, EQ9, EQ10, ↓reduceIte, Nat.reduceBEq, Nat.reduceAdd, Nat.reduceLeDiff, Nat.reduceEqDiff, Nat.reduceSub, reduceCtorEq, Nat.reduceLT, Int.reduceNe, Int.reduceEq, ne_eq, not_false_eq_true, bne_self_eq_false, beq_self_eq_true, startR, flTL, slotL, TL.zl, startRO, startL, startTL, startBox, viewsOf, flsOf, tlsOf, RS.fls, boxT, sepB, FL.isO, tagIs, tagOf, TY, ByteArray.size_append, ba1]
      refine ⟨by omega, by omega, call_by i1 rfl ?_⟩
      rintro _ _ _ rfl
      simp -implicitDefEqProofs (disch := first | omega | (simp -implicitDefEqProofs only [NXQ, Nat.reduceAdd, Nat.reduceMul, Nat.reduceBEq, Nat.reduceEqDiff, Nat.reduceLT, Nat.reduceLeDiff, ne_eq, not_true_eq_false, not_false_eq_true, decide_true, Bool.and_self, beq_self_eq_true]; done) | (simp -implicitDefEqProofs only [NXQ, Nat.reduceAdd, Nat.reduceMul, Nat.reduceBEq, Nat.reduceEqDiff, Nat.reduceLT, Nat.reduceLeDiff, ne_eq, not_true_eq_false, not_false_eq_true, decide_true, Bool.and_self, beq_self_eq_true]; omega) | fail) only [EQ0, EQ1, EQ2, EQ3, EQ4, EQ5, EQ6, EQ7, EQ8, EQ9, EQ10, ↓reduceIte, Nat.reduceBEq, Nat.reduceAdd, Nat.reduceLeDiff, Nat.reduceEqDiff, Nat.reduceSub, reduceCtorEq, Nat.reduceLT, Int.reduceNe, Int.reduceEq, ne_eq, not_false_eq_true, bne_self_eq_false, beq_self_eq_true, startR, flTL, slotL, TL.zl, startRO, startL, startTL, startBox, viewsOf, flsOf, tlsOf, RS.fls, boxT, sepB, FL.isO, tagIs, tagOf, TY, ByteArray.size_append, ba1]
      refine ⟨by omega, by omega, ?_⟩
      simp [textT, g0, g1]
theorem ac_spec_FormatType (t : Ty) (h : sizeT t ≤ 1099511627776) : AC Try.prog 38 [] [vT t] (fun r _ _ => r = rS (fmtT t)) := by
  refine AC.pure' Try.func38 (show Try.f38.body = some _ from rfl) (show _ = [ResultVar.tmp 2] from rfl) rfl mixed rfl (by first | exact Nat.le_of_ble_eq_true rfl | exact Nat.zero_le _) rfl ?_
  simp -implicitDefEqProofs (disch := first | omega | (simp -implicitDefEqProofs only [NXQ, Nat.reduceAdd, Nat.reduceMul, Nat.reduceBEq, Nat.reduceEqDiff, Nat.reduceLT, Nat.reduceLeDiff, ne_eq, not_true_eq_false, not_false_eq_true, decide_true, Bool.and_self, beq_self_eq_true]; done) | (simp -implicitDefEqProofs only [NXQ, Nat.reduceAdd, Nat.reduceMul, Nat.reduceBEq, Nat.reduceEqDiff, Nat.reduceLT, Nat.reduceLeDiff, ne_eq, not_true_eq_false, not_false_eq_true, decide_true, Bool.and_self, beq_self_eq_true]; omega) | fail) only [EQ0, EQ1, EQ2, EQ3, EQ4, EQ5, EQ6, EQ7, EQ8, EQ9, EQ10, ↓reduceIte, Nat.reduceBEq, Nat.reduceAdd, Nat.reduceLeDiff, Nat.reduceEqDiff, Nat.reduceSub, reduceCtorEq, Nat.reduceLT, Int.reduceNe, Int.reduceEq, ne_eq, not_false_eq_true, bne_self_eq_false, beq_self_eq_true, startR, flTL, slotL, TL.zl, startRO, startL, startTL, startBox, viewsOf, flsOf, tlsOf, RS.fls, boxT, sepB, FL.isO, tagIs, tagOf, TY]
  refine call_by (ac_spec_IsValidType t h) rfl ?_
  rintro _ _ _ rfl
  cases hv : validB t with
  | false =>
    simp -implicitDefEqProofs (disch := first | omega | (simp -implicitDefEqProofs only [NXQ, Nat.reduceAdd, Nat.reduceMul, Nat.reduceBEq, Nat.reduceEqDiff, Nat.reduceLT, Nat.reduceLeDiff, ne_eq, not_true_eq_false, not_false_eq_true, decide_true, Bool.and_self, beq_self_eq_true]; done) | (simp -implicitDefEqProofs only [NXQ, Nat.reduceAdd, Nat.reduceMul, Nat.reduceBEq, Nat.reduceEqDiff, Nat.reduceLT, Nat.reduceLeDiff, ne_eq, not_true_eq_false, not_false_eq_true, decide_true, Bool.and_self, beq_self_eq_true]; omega) | fail) only [EQ0, EQ1, EQ2, EQ3, EQ4, EQ5, EQ6, EQ7, EQ8, EQ9, EQ10, ↓reduceIte, Nat.reduceBEq, Nat.reduceAdd, Nat.reduceLeDiff, Nat.reduceEqDiff, Nat.reduceSub, reduceCtorEq, Nat.reduceLT, Int.reduceNe, Int.reduceEq, ne_eq, not_false_eq_true, bne_self_eq_false, beq_self_eq_true, startR, flTL, slotL, TL.zl, startRO, startL, startTL, startBox, viewsOf, flsOf, tlsOf, RS.fls, boxT, sepB, FL.isO, tagIs, tagOf, TY]
    simp [fmtT, hv]
    rfl
  | true =>
    have hf : formT t = true := by simp only [validB, Bool.and_eq_true] at hv; exact hv.2
    simp -implicitDefEqProofs (disch := first | omega | (simp -implicitDefEqProofs only [NXQ, Nat.reduceAdd, Nat.reduceMul, Nat.reduceBEq, Nat.reduceEqDiff, Nat.reduceLT, Nat.reduceLeDiff, ne_eq, not_true_eq_false, not_false_eq_true, decide_true, Bool.and_self, beq_self_eq_true]; done) | (simp -implicitDefEqProofs only [NXQ, Nat.reduceAdd, Nat.reduceMul, Nat.reduceBEq, Nat.reduceEqDiff, Nat.reduceLT, Nat.reduceLeDiff, ne_eq, not_true_eq_false, not_false_eq_true, decide_true, Bool.and_self, beq_self_eq_true]; omega) | fail) only [EQ0, EQ1, EQ2, EQ3, EQ4, EQ5, EQ6, EQ7, EQ8, EQ9, EQ10, ↓reduceIte, Nat.reduceBEq, Nat.reduceAdd, Nat.reduceLeDiff, Nat.reduceEqDiff, Nat.reduceSub, reduceCtorEq, Nat.reduceLT, Int.reduceNe, Int.reduceEq, ne_eq, not_false_eq_true, bne_self_eq_false, beq_self_eq_true, startR, flTL, slotL, TL.zl, startRO, startL, startTL, startBox, viewsOf, flsOf, tlsOf, RS.fls, boxT, sepB, FL.isO, tagIs, tagOf, TY]
    refine call_by (ac_l4Text t h hf) rfl ?_
    rintro _ _ _ rfl
    simp -implicitDefEqProofs (disch := first | omega | (simp -implicitDefEqProofs only [NXQ, Nat.reduceAdd, Nat.reduceMul, Nat.reduceBEq, Nat.reduceEqDiff, Nat.reduceLT, Nat.reduceLeDiff, ne_eq, not_true_eq_false, not_false_eq_true, decide_true, Bool.and_self, beq_self_eq_true]; done) | (simp -implicitDefEqProofs only [NXQ, Nat.reduceAdd, Nat.reduceMul, Nat.reduceBEq, Nat.reduceEqDiff, Nat.reduceLT, Nat.reduceLeDiff, ne_eq, not_true_eq_false, not_false_eq_true, decide_true, Bool.and_self, beq_self_eq_true]; omega) | fail) only [EQ0, EQ1, EQ2, EQ3, EQ4, EQ5, EQ6, EQ7, EQ8, EQ9, EQ10, ↓reduceIte, Nat.reduceBEq, Nat.reduceAdd, Nat.reduceLeDiff, Nat.reduceEqDiff, Nat.reduceSub, reduceCtorEq, Nat.reduceLT, Int.reduceNe, Int.reduceEq, ne_eq, not_false_eq_true, bne_self_eq_false, beq_self_eq_true, startR, flTL, slotL, TL.zl, startRO, startL, startTL, startBox, viewsOf, flsOf, tlsOf, RS.fls, boxT, sepB, FL.isO, tagIs, tagOf, TY]
    simp [fmtT, hv]
theorem ac_impl_FormatType (t : Ty) (h : sizeT t ≤ 1099511627776) : AC Try.prog 39 [] [vT t] (fun r _ _ => r = rS (fmtT t)) := by
  refine AC.pure' Try.func39 (show Try.f39.body = some _ from rfl) (show _ = [ResultVar.tmp 2] from rfl) rfl mixed rfl (by first | exact Nat.le_of_ble_eq_true rfl | exact Nat.zero_le _) rfl ?_
  simp -implicitDefEqProofs (disch := first | omega | (simp -implicitDefEqProofs only [NXQ, Nat.reduceAdd, Nat.reduceMul, Nat.reduceBEq, Nat.reduceEqDiff, Nat.reduceLT, Nat.reduceLeDiff, ne_eq, not_true_eq_false, not_false_eq_true, decide_true, Bool.and_self, beq_self_eq_true]; done) | (simp -implicitDefEqProofs only [NXQ, Nat.reduceAdd, Nat.reduceMul, Nat.reduceBEq, Nat.reduceEqDiff, Nat.reduceLT, Nat.reduceLeDiff, ne_eq, not_true_eq_false, not_false_eq_true, decide_true, Bool.and_self, beq_self_eq_true]; omega) | fail) only [EQ0, EQ1, EQ2, EQ3, EQ4, EQ5, EQ6, EQ7, EQ8, EQ9, EQ10, ↓reduceIte, Nat.reduceBEq, Nat.reduceAdd, Nat.reduceLeDiff, Nat.reduceEqDiff, Nat.reduceSub, reduceCtorEq, Nat.reduceLT, Int.reduceNe, Int.reduceEq, ne_eq, not_false_eq_true, bne_self_eq_false, beq_self_eq_true, startR, flTL, slotL, TL.zl, startRO, startL, startTL, startBox, viewsOf, flsOf, tlsOf, RS.fls, boxT, sepB, FL.isO, tagIs, tagOf, TY]
  refine call_by (ac_impl_IsValidType t h) rfl ?_
  rintro _ _ _ rfl
  cases hv : validB t with
  | false =>
    simp -implicitDefEqProofs (disch := first | omega | (simp -implicitDefEqProofs only [NXQ, Nat.reduceAdd, Nat.reduceMul, Nat.reduceBEq, Nat.reduceEqDiff, Nat.reduceLT, Nat.reduceLeDiff, ne_eq, not_true_eq_false, not_false_eq_true, decide_true, Bool.and_self, beq_self_eq_true]; done) | (simp -implicitDefEqProofs only [NXQ, Nat.reduceAdd, Nat.reduceMul, Nat.reduceBEq, Nat.reduceEqDiff, Nat.reduceLT, Nat.reduceLeDiff, ne_eq, not_true_eq_false, not_false_eq_true, decide_true, Bool.and_self, beq_self_eq_true]; omega) | fail) only [EQ0, EQ1, EQ2, EQ3, EQ4, EQ5, EQ6, EQ7, EQ8, EQ9, EQ10, ↓reduceIte, Nat.reduceBEq, Nat.reduceAdd, Nat.reduceLeDiff, Nat.reduceEqDiff, Nat.reduceSub, reduceCtorEq, Nat.reduceLT, Int.reduceNe, Int.reduceEq, ne_eq, not_false_eq_true, bne_self_eq_false, beq_self_eq_true, startR, flTL, slotL, TL.zl, startRO, startL, startTL, startBox, viewsOf, flsOf, tlsOf, RS.fls, boxT, sepB, FL.isO, tagIs, tagOf, TY]
    simp [fmtT, hv]
    rfl
  | true =>
    have hf : formT t = true := by simp only [validB, Bool.and_eq_true] at hv; exact hv.2
    simp -implicitDefEqProofs (disch := first | omega | (simp -implicitDefEqProofs only [NXQ, Nat.reduceAdd, Nat.reduceMul, Nat.reduceBEq, Nat.reduceEqDiff, Nat.reduceLT, Nat.reduceLeDiff, ne_eq, not_true_eq_false, not_false_eq_true, decide_true, Bool.and_self, beq_self_eq_true]; done) | (simp -implicitDefEqProofs only [NXQ, Nat.reduceAdd, Nat.reduceMul, Nat.reduceBEq, Nat.reduceEqDiff, Nat.reduceLT, Nat.reduceLeDiff, ne_eq, not_true_eq_false, not_false_eq_true, decide_true, Bool.and_self, beq_self_eq_true]; omega) | fail) only [EQ0, EQ1, EQ2, EQ3, EQ4, EQ5, EQ6, EQ7, EQ8, EQ9, EQ10, ↓reduceIte, Nat.reduceBEq, Nat.reduceAdd, Nat.reduceLeDiff, Nat.reduceEqDiff, Nat.reduceSub, reduceCtorEq, Nat.reduceLT, Int.reduceNe, Int.reduceEq, ne_eq, not_false_eq_true, bne_self_eq_false, beq_self_eq_true, startR, flTL, slotL, TL.zl, startRO, startL, startTL, startBox, viewsOf, flsOf, tlsOf, RS.fls, boxT, sepB, FL.isO, tagIs, tagOf, TY]
    refine call_by (ac_typeText t h hf) rfl ?_
    rintro _ _ _ rfl
    simp -implicitDefEqProofs (disch := first | omega | (simp -implicitDefEqProofs only [NXQ, Nat.reduceAdd, Nat.reduceMul, Nat.reduceBEq, Nat.reduceEqDiff, Nat.reduceLT, Nat.reduceLeDiff, ne_eq, not_true_eq_false, not_false_eq_true, decide_true, Bool.and_self, beq_self_eq_true]; done) | (simp -implicitDefEqProofs only [NXQ, Nat.reduceAdd, Nat.reduceMul, Nat.reduceBEq, Nat.reduceEqDiff, Nat.reduceLT, Nat.reduceLeDiff, ne_eq, not_true_eq_false, not_false_eq_true, decide_true, Bool.and_self, beq_self_eq_true]; omega) | fail) only [EQ0, EQ1, EQ2, EQ3, EQ4, EQ5, EQ6, EQ7, EQ8, EQ9, EQ10, ↓reduceIte, Nat.reduceBEq, Nat.reduceAdd, Nat.reduceLeDiff, Nat.reduceEqDiff, Nat.reduceSub, reduceCtorEq, Nat.reduceLT, Int.reduceNe, Int.reduceEq, ne_eq, not_false_eq_true, bne_self_eq_false, beq_self_eq_true, startR, flTL, slotL, TL.zl, startRO, startL, startTL, startBox, viewsOf, flsOf, tlsOf, RS.fls, boxT, sepB, FL.isO, tagIs, tagOf, TY]
    simp [fmtT, hv]
end Go.Proofs.Ythhfhllfbnpcgaa.Co
