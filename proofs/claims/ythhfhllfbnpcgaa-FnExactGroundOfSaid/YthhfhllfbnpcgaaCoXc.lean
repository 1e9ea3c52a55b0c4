/- The three types without parts. -/
import Derived.Test.YthhfhllfbnpcgaaCoXb
import Derived.Test.YthhfhllfbnpcgaaCoV
namespace Go.Proofs.Ythhfhllfbnpcgaa.Co
open Go
set_option maxRecDepth 100000
set_option linter.unusedSimpArgs false
set_option linter.unusedVariables false
theorem ac_spec_UnknownType : AC Try.prog 69 [] [] (fun r _ _ => r = oT (.mk 1 [])) := by
  refine AC.pure' Try.func69 (show Try.f69.body = some _ from rfl) (show _ = [ResultVar.cell 0 29] from rfl) rfl mixed rfl (by first | exact Nat.le_of_ble_eq_true rfl | exact Nat.zero_le _) rfl ?_
  simp -implicitDefEqProofs (disch := first | omega | (simp -implicitDefEqProofs only [NXQ, Nat.reduceAdd, Nat.reduceMul, Nat.reduceBEq, Nat.reduceEqDiff, Nat.reduceLT, Nat.reduceLeDiff, ne_eq, not_true_eq_false, not_false_eq_true, decide_true, Bool.and_self, beq_self_eq_true]; done) | (simp -implicitDefEqProofs only [NXQ, Nat.reduceAdd, Nat.reduceMul, Nat.reduceBEq, Nat.reduceEqDiff, Nat.reduceLT, Nat.reduceLeDiff, ne_eq, not_true_eq_false, not_false_eq_true, decide_true, Bool.and_self, beq_self_eq_true]; omega) | fail) only [EQ0, EQ1, EQ2, EQ3, EQ4, EQ5, EQ6, EQ7, EQ8, EQ9, EQ10, ↓reduceIte, Nat.reduceBEq, Nat.reduceAdd, Nat.reduceLeDiff, Nat.reduceEqDiff, Nat.reduceSub, reduceCtorEq, Nat.reduceLT, Int.reduceNe, Int.reduceEq, ne_eq, not_false_eq_true, bne_self_eq_false, beq_self_eq_true, startR, flTL, slotL, TL.zl, startRO, startL, startTL, startBox, viewsOf, flsOf, tlsOf, RS.fls, boxT, sepB, FL.isO, tagIs, tagOf, TY]
  rfl
theorem ac_impl_UnknownType : AC Try.prog 70 [] [] (fun r _ _ => r = oT (.mk 1 [])) := by
  refine AC.pure' Try.func70 (show Try.f70.body = some _ from rfl) (show _ = [ResultVar.cell 0 29] from rfl) rfl mixed rfl (by first | exact Nat.le_of_ble_eq_true rfl | exact Nat.zero_le _) rfl ?_
  simp -implicitDefEqProofs (disch := first | omega | (simp -implicitDefEqProofs only [NXQ, Nat.reduceAdd, Nat.reduceMul, Nat.reduceBEq, Nat.reduceEqDiff, Nat.reduceLT, Nat.reduceLeDiff, ne_eq, not_true_eq_false, not_false_eq_true, decide_true, Bool.and_self, beq_self_eq_true]; done) | (simp -implicitDefEqProofs only [NXQ, Nat.reduceAdd, Nat.reduceMul, Nat.reduceBEq, Nat.reduceEqDiff, Nat.reduceLT, Nat.reduceLeDiff, ne_eq, not_true_eq_false, not_false_eq_true, decide_true, Bool.and_self, beq_self_eq_true]; omega) | fail) only [EQ0, EQ1, EQ2, EQ3, EQ4, EQ5, EQ6, EQ7, EQ8, EQ9, EQ10, ↓reduceIte, Nat.reduceBEq, Nat.reduceAdd, Nat.reduceLeDiff, Nat.reduceEqDiff, Nat.reduceSub, reduceCtorEq, Nat.reduceLT, Int.reduceNe, Int.reduceEq, ne_eq, not_false_eq_true, bne_self_eq_false, beq_self_eq_true, startR, flTL, slotL, TL.zl, startRO, startL, startTL, startBox, viewsOf, flsOf, tlsOf, RS.fls, boxT, sepB, FL.isO, tagIs, tagOf, TY]
  rfl
end Go.Proofs.Ythhfhllfbnpcgaa.Co
