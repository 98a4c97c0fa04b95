/- Written by xprint.py, a program of this session, out of the translation: what Go functions compute, as Lean functions, proved over the program. -/
import Derived.Test.YtgblcbgkkfipoaaXFnCutsx0
import Derived.Test.YtgblcbgkkfipoaaXFnCutsx2
import Derived.Test.YtgblcbgkkfipoaaXFnCutsx4
import Derived.Test.YtgblcbgkkfipoaaXFnCutsx5
import Derived.Test.YtgblcbgkkfipoaaXFnCutsx7
import Derived.Test.YtgblcbgkkfipoaaXFnCutsx10
import Derived.Test.YtgblcbgkkfipoaaXFnCutsx11
import Derived.Test.YtgblcbgkkfipoaaXFnCutsx12
import Derived.Test.YtgblcbgkkfipoaaXFnCutsx13
import Derived.Test.YtgblcbgkkfipoaaWQuick
namespace Go.Proofs.Ytgblcbgkkfipoaa.XFnCuts
open Go.RowKit Go.Proofs.YtgblcbgkkfipoaaW.PrintWords Go.Proofs.YtgblcbgkkfipoaaW.PrintLast Go.Proofs.YtgblcbgkkfipoaaW.PrintMore
attribute [local go_sem] max2_int min2_int max_two min_two max_three min_three max_four min_four   -- for this text's walks alone
set_option linter.unusedVariables false
set_option linter.unusedSimpArgs false

/-! ### laws_FnCuts: function 4 -/
mutual
def laws_FnCuts.j0 : Nat → List Int → List Int → List Int → Bool → List Int → Bool → Option (Bool)
 | 0, _, _, _, _, _, _ => none
 | k + 1, x1, x5, x7, x8, x9, x86 => if x86 = true then (some false) else (if x8 = true then ((impl_RecoverRecords.f k x7).bind fun bt571 => ((spec_RecoverRecords.f k x9).bind fun bt576 => ((spec_RecoverRecords.f k x5).bind fun bt581 => (if bt571.2.2 = true then (if bt576.2.2 = true then (if bt581.2.2 = true then ((laws_pSameRecords.f k bt571.1 bt576.1).bind fun t586 => (if t586 = true then (if bt571.2.1 = bt576.2.1 then (if bt576.2.1 > bt581.2.1 then (some false) else (if bt576.2.1 > (x9.length : Int) then (some false) else (if bt576.2.1 = (wrap64 (5 * (bt576.1.length : Int))) then (if 0 ≤ (bt576.1.length : Int) then (if (bt576.1.length : Int) ≤ (bt581.1.length : Int) then ((laws_pSameRecords.f k (bt581.1.take ((bt576.1.length : Int) : Int).toNat) bt576.1).bind fun t591 => (if t591 = true then (laws_FnCuts.j1 k x1) else (some false))) else (none)) else (none)) else (some false)))) else (some false)) else (some false))) else (some false)) else (some false)) else (some false))))) else (laws_FnCuts.j1 k x1))
def laws_FnCuts.j1 : Nat → List Int → Option (Bool)
 | 0, _ => none
 | k + 1, x1 => (spec_DrawChangeNumber.f k x1).bind fun bt592 => ((impl_ChangeNumber.f k bt592.1 bt592.2.1 bt592.2.2).bind fun bt597 => ((spec_ChangeNumber.f k bt592.1 bt592.2.1 bt592.2.2).bind fun bt601 => (if (bt597.2 != bt601.2) = true then (laws_FnCuts.j2 k x1 bt592.1 bt592.2.1 bt597.1 bt597.2 bt601.1 true) else ((laws_sameInts.f k bt597.1 bt601.1).bind fun t605 => (laws_FnCuts.j2 k x1 bt592.1 bt592.2.1 bt597.1 bt597.2 bt601.1 (!t605))))))
def laws_FnCuts.j2 : Nat → List Int → List Int → Int → List Int → Bool → List Int → Bool → Option (Bool)
 | 0, _, _, _, _, _, _, _ => none
 | k + 1, x1, x20, x21, x23, x24, x25, x182 => if x182 = true then (some false) else (if x24 = true then (if 0 ≤ x21 then (if x21 < (x20.length : Int) then ((impl_ChangeNumber.f k x23 x21 (rd x20 x21)).bind fun bt607 => ((impl_RecoverRecords.f k x23).bind fun bt611 => ((spec_RecoverRecords.f k x25).bind fun bt616 => ((spec_RecoverRecords.f k x20).bind fun bt621 => (if bt607.2 = true then ((laws_sameInts.f k bt607.1 x20).bind fun t626 => (if t626 = true then (if bt611.2.2 = true then (if bt616.2.2 = true then (if bt621.2.2 = true then ((laws_pSameRecords.f k bt611.1 bt616.1).bind fun t627 => (if t627 = true then (if (wrap64 (Int.tdiv x21 5)) < (bt621.1.length : Int) then (if 0 ≤ (wrap64 (Int.tdiv x21 5)) then (if (wrap64 (Int.tdiv x21 5)) ≤ (bt616.1.length : Int) then (if (wrap64 (Int.tdiv x21 5)) ≤ (bt621.1.length : Int) then ((laws_pSameRecords.f k (bt616.1.take ((wrap64 (Int.tdiv x21 5)) : Int).toNat) (bt621.1.take ((wrap64 (Int.tdiv x21 5)) : Int).toNat)).bind fun t636 => (if t636 = true then (laws_FnCuts.j3 k x1) else (some false))) else (none)) else (none)) else (none)) else (laws_FnCuts.j3 k x1)) else (some false))) else (some false)) else (some false)) else (some false)) else (some false))) else (some false)))))) else (none)) else (none)) else (laws_FnCuts.j3 k x1))
def laws_FnCuts.j3 : Nat → List Int → Option (Bool)
 | 0, _ => none
 | k + 1, x1 => (spec_DrawLostAfterCut.f k x1).bind fun bt637 => ((impl_LostAfterCut.f k bt637.1 bt637.2).bind fun bt641 => ((spec_LostAfterCut.f k bt637.1 bt637.2).bind fun bt643 => ((spec_DrawRecordNumbers.f k x1).bind fun bt645 => ((impl_RecordNumbers.f bt645.1 bt645.2.1 bt645.2.2.1 bt645.2.2.2).bind fun bt650 => ((spec_RecordNumbers.f bt645.1 bt645.2.1 bt645.2.2.1 bt645.2.2.2).bind fun bt654 => ((spec_DrawRecoverRecords.f k x1).bind fun t658 => ((impl_RecoverRecords.f k t658).bind fun bt661 => ((spec_RecoverRecords.f k t658).bind fun bt666 => ((spec_DrawIsJournalRecord.f k x1).bind fun bt671 => (if (bt641.2 == bt643.2) = true then (if bt641.1 = bt643.1 then (if bt641.2 = true then (if bt643.1 ≥ 0 then (if bt643.1 ≤ 8 then (if (bt650.2 == bt654.2) = true then ((laws_sameInts.f k bt650.1 bt654.1).bind fun t675 => (if t675 = true then (if (bt661.2.2 == bt666.2.2) = true then ((laws_pSameRecords.f k bt661.1 bt666.1).bind fun t676 => (if t676 = true then (if bt661.2.1 = bt666.2.1 then ((impl_IsJournalRecord.f bt671.1 bt671.2.1 bt671.2.2).bind fun t677 => ((spec_IsJournalRecord.f bt671.1 bt671.2.1 bt671.2.2).bind fun t678 => (some (t677 == t678)))) else (some false)) else (some false))) else (some false)) else (some false))) else (some false)) else (some false)) else (some false)) else (if (bt650.2 == bt654.2) = true then ((laws_sameInts.f k bt650.1 bt654.1).bind fun t679 => (if t679 = true then (if (bt661.2.2 == bt666.2.2) = true then ((laws_pSameRecords.f k bt661.1 bt666.1).bind fun t680 => (if t680 = true then (if bt661.2.1 = bt666.2.1 then ((impl_IsJournalRecord.f bt671.1 bt671.2.1 bt671.2.2).bind fun t681 => ((spec_IsJournalRecord.f bt671.1 bt671.2.1 bt671.2.2).bind fun t682 => (some (t681 == t682)))) else (some false)) else (some false))) else (some false)) else (some false))) else (some false))) else (some false)) else (some false)))))))))))
end
def laws_FnCuts.f (k : Nat) (l0 : List Int) (l1 : List Int) : Option (Bool) := (laws_big.f l0 l1).bind fun t557 => (if t557 = true then (some true) else ((spec_DrawCutNumbers.f k l0).bind fun bt558 => ((impl_CutNumbers.f k bt558.1 bt558.2).bind fun bt562 => ((spec_CutNumbers.f k bt558.1 bt558.2).bind fun bt566 => (if (bt562.2 != bt566.2) = true then (laws_FnCuts.j0 k l1 bt558.1 bt562.1 bt562.2 bt566.1 true) else ((laws_sameInts.f k bt562.1 bt566.1).bind fun t570 => (laws_FnCuts.j0 k l1 bt558.1 bt562.1 bt562.2 bt566.1 (!t570))))))))
theorem laws_FnCuts.mono_l : ∀ k, (∀ y0 y1 y2 y3 y4 y5, LeO (laws_FnCuts.j0 k y0 y1 y2 y3 y4 y5) (laws_FnCuts.j0 (k + 1) y0 y1 y2 y3 y4 y5)) ∧ (∀ y0, LeO (laws_FnCuts.j1 k y0) (laws_FnCuts.j1 (k + 1) y0)) ∧ (∀ y0 y1 y2 y3 y4 y5 y6, LeO (laws_FnCuts.j2 k y0 y1 y2 y3 y4 y5 y6) (laws_FnCuts.j2 (k + 1) y0 y1 y2 y3 y4 y5 y6)) ∧ (∀ y0, LeO (laws_FnCuts.j3 k y0) (laws_FnCuts.j3 (k + 1) y0))
 | 0 => ⟨fun _ _ _ _ _ _ r h => by simp [laws_FnCuts.j0] at h, fun _ r h => by simp [laws_FnCuts.j1] at h, fun _ _ _ _ _ _ _ r h => by simp [laws_FnCuts.j2] at h, fun _ r h => by simp [laws_FnCuts.j3] at h⟩
 | k + 1 => by
  obtain ⟨ih0, ih1, ih2, ih3⟩ := laws_FnCuts.mono_l k
  refine ⟨?_, ?_, ?_, ?_⟩
  ·intro y0 y1 y2 y3 y4 y5
   unfold laws_FnCuts.j0
   repeat' first | (with_reducible first | exact ih0 _ _ _ _ _ _ | exact ih1 _ | exact ih2 _ _ _ _ _ _ _ | exact ih3 _ | exact impl_ChangeNumber.mono _ _ _ _ | exact impl_CutNumbers.mono _ _ _ | exact impl_LostAfterCut.mono _ _ _ | exact impl_RecoverRecords.mono _ _ | exact laws_pSameRecords.mono _ _ _ | exact laws_sameInts.mono _ _ _ | exact spec_ChangeNumber.mono _ _ _ _ | exact spec_CutNumbers.mono _ _ _ | exact spec_DrawChangeNumber.mono _ _ | exact spec_DrawCutNumbers.mono _ _ | exact spec_DrawIsJournalRecord.mono _ _ | exact spec_DrawLostAfterCut.mono _ _ | exact spec_DrawRecordNumbers.mono _ _ | exact spec_DrawRecoverRecords.mono _ _ | exact spec_LostAfterCut.mono _ _ _ | exact spec_RecoverRecords.mono _ _ | exact LeO.refl _ | exact LeO.none _ | refine LeO.ite ?_ ?_ | refine LeO.bind ?_ (fun _ => ?_)) | exact ih0 _ _ _ _ _ _ | exact ih1 _ | exact ih2 _ _ _ _ _ _ _ | exact ih3 _ | exact impl_ChangeNumber.mono _ _ _ _ | exact impl_CutNumbers.mono _ _ _ | exact impl_LostAfterCut.mono _ _ _ | exact impl_RecoverRecords.mono _ _ | exact laws_pSameRecords.mono _ _ _ | exact laws_sameInts.mono _ _ _ | exact spec_ChangeNumber.mono _ _ _ _ | exact spec_CutNumbers.mono _ _ _ | exact spec_DrawChangeNumber.mono _ _ | exact spec_DrawCutNumbers.mono _ _ | exact spec_DrawIsJournalRecord.mono _ _ | exact spec_DrawLostAfterCut.mono _ _ | exact spec_DrawRecordNumbers.mono _ _ | exact spec_DrawRecoverRecords.mono _ _ | exact spec_LostAfterCut.mono _ _ _ | exact spec_RecoverRecords.mono _ _ | exact LeO.none _ | refine LeO.ite ?_ ?_ | refine LeO.bind ?_ (fun _ => ?_)
  ·intro y0
   unfold laws_FnCuts.j1
   repeat' first | (with_reducible first | exact ih0 _ _ _ _ _ _ | exact ih1 _ | exact ih2 _ _ _ _ _ _ _ | exact ih3 _ | exact impl_ChangeNumber.mono _ _ _ _ | exact impl_CutNumbers.mono _ _ _ | exact impl_LostAfterCut.mono _ _ _ | exact impl_RecoverRecords.mono _ _ | exact laws_pSameRecords.mono _ _ _ | exact laws_sameInts.mono _ _ _ | exact spec_ChangeNumber.mono _ _ _ _ | exact spec_CutNumbers.mono _ _ _ | exact spec_DrawChangeNumber.mono _ _ | exact spec_DrawCutNumbers.mono _ _ | exact spec_DrawIsJournalRecord.mono _ _ | exact spec_DrawLostAfterCut.mono _ _ | exact spec_DrawRecordNumbers.mono _ _ | exact spec_DrawRecoverRecords.mono _ _ | exact spec_LostAfterCut.mono _ _ _ | exact spec_RecoverRecords.mono _ _ | exact LeO.refl _ | exact LeO.none _ | refine LeO.ite ?_ ?_ | refine LeO.bind ?_ (fun _ => ?_)) | exact ih0 _ _ _ _ _ _ | exact ih1 _ | exact ih2 _ _ _ _ _ _ _ | exact ih3 _ | exact impl_ChangeNumber.mono _ _ _ _ | exact impl_CutNumbers.mono _ _ _ | exact impl_LostAfterCut.mono _ _ _ | exact impl_RecoverRecords.mono _ _ | exact laws_pSameRecords.mono _ _ _ | exact laws_sameInts.mono _ _ _ | exact spec_ChangeNumber.mono _ _ _ _ | exact spec_CutNumbers.mono _ _ _ | exact spec_DrawChangeNumber.mono _ _ | exact spec_DrawCutNumbers.mono _ _ | exact spec_DrawIsJournalRecord.mono _ _ | exact spec_DrawLostAfterCut.mono _ _ | exact spec_DrawRecordNumbers.mono _ _ | exact spec_DrawRecoverRecords.mono _ _ | exact spec_LostAfterCut.mono _ _ _ | exact spec_RecoverRecords.mono _ _ | exact LeO.none _ | refine LeO.ite ?_ ?_ | refine LeO.bind ?_ (fun _ => ?_)
  ·intro y0 y1 y2 y3 y4 y5 y6
   unfold laws_FnCuts.j2
   repeat' first | (with_reducible first | exact ih0 _ _ _ _ _ _ | exact ih1 _ | exact ih2 _ _ _ _ _ _ _ | exact ih3 _ | exact impl_ChangeNumber.mono _ _ _ _ | exact impl_CutNumbers.mono _ _ _ | exact impl_LostAfterCut.mono _ _ _ | exact impl_RecoverRecords.mono _ _ | exact laws_pSameRecords.mono _ _ _ | exact laws_sameInts.mono _ _ _ | exact spec_ChangeNumber.mono _ _ _ _ | exact spec_CutNumbers.mono _ _ _ | exact spec_DrawChangeNumber.mono _ _ | exact spec_DrawCutNumbers.mono _ _ | exact spec_DrawIsJournalRecord.mono _ _ | exact spec_DrawLostAfterCut.mono _ _ | exact spec_DrawRecordNumbers.mono _ _ | exact spec_DrawRecoverRecords.mono _ _ | exact spec_LostAfterCut.mono _ _ _ | exact spec_RecoverRecords.mono _ _ | exact LeO.refl _ | exact LeO.none _ | refine LeO.ite ?_ ?_ | refine LeO.bind ?_ (fun _ => ?_)) | exact ih0 _ _ _ _ _ _ | exact ih1 _ | exact ih2 _ _ _ _ _ _ _ | exact ih3 _ | exact impl_ChangeNumber.mono _ _ _ _ | exact impl_CutNumbers.mono _ _ _ | exact impl_LostAfterCut.mono _ _ _ | exact impl_RecoverRecords.mono _ _ | exact laws_pSameRecords.mono _ _ _ | exact laws_sameInts.mono _ _ _ | exact spec_ChangeNumber.mono _ _ _ _ | exact spec_CutNumbers.mono _ _ _ | exact spec_DrawChangeNumber.mono _ _ | exact spec_DrawCutNumbers.mono _ _ | exact spec_DrawIsJournalRecord.mono _ _ | exact spec_DrawLostAfterCut.mono _ _ | exact spec_DrawRecordNumbers.mono _ _ | exact spec_DrawRecoverRecords.mono _ _ | exact spec_LostAfterCut.mono _ _ _ | exact spec_RecoverRecords.mono _ _ | exact LeO.none _ | refine LeO.ite ?_ ?_ | refine LeO.bind ?_ (fun _ => ?_)
  ·intro y0
   unfold laws_FnCuts.j3
   repeat' first | (with_reducible first | exact ih0 _ _ _ _ _ _ | exact ih1 _ | exact ih2 _ _ _ _ _ _ _ | exact ih3 _ | exact impl_ChangeNumber.mono _ _ _ _ | exact impl_CutNumbers.mono _ _ _ | exact impl_LostAfterCut.mono _ _ _ | exact impl_RecoverRecords.mono _ _ | exact laws_pSameRecords.mono _ _ _ | exact laws_sameInts.mono _ _ _ | exact spec_ChangeNumber.mono _ _ _ _ | exact spec_CutNumbers.mono _ _ _ | exact spec_DrawChangeNumber.mono _ _ | exact spec_DrawCutNumbers.mono _ _ | exact spec_DrawIsJournalRecord.mono _ _ | exact spec_DrawLostAfterCut.mono _ _ | exact spec_DrawRecordNumbers.mono _ _ | exact spec_DrawRecoverRecords.mono _ _ | exact spec_LostAfterCut.mono _ _ _ | exact spec_RecoverRecords.mono _ _ | exact LeO.refl _ | exact LeO.none _ | refine LeO.ite ?_ ?_ | refine LeO.bind ?_ (fun _ => ?_)) | exact ih0 _ _ _ _ _ _ | exact ih1 _ | exact ih2 _ _ _ _ _ _ _ | exact ih3 _ | exact impl_ChangeNumber.mono _ _ _ _ | exact impl_CutNumbers.mono _ _ _ | exact impl_LostAfterCut.mono _ _ _ | exact impl_RecoverRecords.mono _ _ | exact laws_pSameRecords.mono _ _ _ | exact laws_sameInts.mono _ _ _ | exact spec_ChangeNumber.mono _ _ _ _ | exact spec_CutNumbers.mono _ _ _ | exact spec_DrawChangeNumber.mono _ _ | exact spec_DrawCutNumbers.mono _ _ | exact spec_DrawIsJournalRecord.mono _ _ | exact spec_DrawLostAfterCut.mono _ _ | exact spec_DrawRecordNumbers.mono _ _ | exact spec_DrawRecoverRecords.mono _ _ | exact spec_LostAfterCut.mono _ _ _ | exact spec_RecoverRecords.mono _ _ | exact LeO.none _ | refine LeO.ite ?_ ?_ | refine LeO.bind ?_ (fun _ => ?_)
theorem laws_FnCuts.mono : ∀ a0 a1 k, LeO (laws_FnCuts.f k a0 a1) (laws_FnCuts.f (k + 1) a0 a1) := by
 intro a0 a1 k
 obtain ⟨ih0, ih1, ih2, ih3⟩ := laws_FnCuts.mono_l k
 unfold laws_FnCuts.f
 repeat' first | (with_reducible first | exact ih0 _ _ _ _ _ _ | exact ih1 _ | exact ih2 _ _ _ _ _ _ _ | exact ih3 _ | exact impl_ChangeNumber.mono _ _ _ _ | exact impl_CutNumbers.mono _ _ _ | exact impl_LostAfterCut.mono _ _ _ | exact impl_RecoverRecords.mono _ _ | exact laws_pSameRecords.mono _ _ _ | exact laws_sameInts.mono _ _ _ | exact spec_ChangeNumber.mono _ _ _ _ | exact spec_CutNumbers.mono _ _ _ | exact spec_DrawChangeNumber.mono _ _ | exact spec_DrawCutNumbers.mono _ _ | exact spec_DrawIsJournalRecord.mono _ _ | exact spec_DrawLostAfterCut.mono _ _ | exact spec_DrawRecordNumbers.mono _ _ | exact spec_DrawRecoverRecords.mono _ _ | exact spec_LostAfterCut.mono _ _ _ | exact spec_RecoverRecords.mono _ _ | exact LeO.refl _ | exact LeO.none _ | refine LeO.ite ?_ ?_ | refine LeO.bind ?_ (fun _ => ?_)) | exact ih0 _ _ _ _ _ _ | exact ih1 _ | exact ih2 _ _ _ _ _ _ _ | exact ih3 _ | exact impl_ChangeNumber.mono _ _ _ _ | exact impl_CutNumbers.mono _ _ _ | exact impl_LostAfterCut.mono _ _ _ | exact impl_RecoverRecords.mono _ _ | exact laws_pSameRecords.mono _ _ _ | exact laws_sameInts.mono _ _ _ | exact spec_ChangeNumber.mono _ _ _ _ | exact spec_CutNumbers.mono _ _ _ | exact spec_DrawChangeNumber.mono _ _ | exact spec_DrawCutNumbers.mono _ _ | exact spec_DrawIsJournalRecord.mono _ _ | exact spec_DrawLostAfterCut.mono _ _ | exact spec_DrawRecordNumbers.mono _ _ | exact spec_DrawRecoverRecords.mono _ _ | exact spec_LostAfterCut.mono _ _ _ | exact spec_RecoverRecords.mono _ _ | exact LeO.none _ | refine LeO.ite ?_ ?_ | refine LeO.bind ?_ (fun _ => ?_)
def laws_FnCuts.T24 : Bool × List (List Nat × List Nat) := (true, [([], []), ([0], [0]), ([1], [1]), ([2], [2]), ([2], [2]), ([3, 4, 2, 2], [2, 3, 4]), ([5, 2], [2, 5]), ([2, 6], [2, 6]), ([7, 5], [7]), ([8], [8]), ([9, 8], [8, 9]), ([8, 10], [8, 10]), ([11, 8], [11]), ([12], [12]), ([13, 12], [12, 13]), ([12, 14], [12, 14]), ([15, 12], [15]), ([16], [16]), ([17, 16], [16, 17]), ([16, 18], [16, 18]), ([19, 16], [19]), ([20], [20]), ([20], [20]), ([21, 22, 20, 20], [20, 21, 22]), ([23, 20], [20, 23]), ([20, 24], [20, 24]), ([25, 23], [25]), ([26], [26]), ([27, 26], [26, 27]), ([26], [26]), ([29, 26], [26, 29]), ([28, 30, 26], [26, 28, 30]), ([31, 26, 26], [26, 31]), ([32], [32]), ([32], [32]), ([34, 32], [32, 34]), ([33, 35, 32], [32, 33, 35]), ([32], [32]), ([32], [32]), ([38, 32], [32, 38]), ([37, 39, 32], [32, 37, 39]), ([36, 40, 32, 32], [32, 36, 40]), ([41, 32], [32, 41]), ([32, 42, 26], [26, 32, 42]), ([26, 43], [26, 43])])
def laws_FnCuts.B24 : List Nat := [0, 1, 3, 7, 7, 31, 63, 127, 255, 511, 1023, 2047, 4095, 8191, 16383, 32767, 65535, 131071, 262143, 524287, 1048575, 2097151, 2097151, 8388607, 16777215, 33554431, 67108863, 134217727, 268435455, 134217727, 671088639, 2147483647, 4294967295, 8589934591, 8589934591, 25769803775, 68719476735, 8589934591, 8589934591, 283467841535, 970662608895, 2199023255551, 4398046511103, 8796093022207, 17592186044415]
theorem laws_FnCuts.tab24 : rtab .any (opsOf Try.f4 24) = laws_FnCuts.T24 := by kernel_rfl
theorem laws_FnCuts.bits24 : waitsOk laws_FnCuts.T24.2 laws_FnCuts.B24 = true := by kernel_rfl
def laws_FnCuts.T36 : Bool × List (List Nat × List Nat) := (true, [([], []), ([], []), ([0, 1], [0, 1]), ([2], [2]), ([3], [3]), ([3], [3]), ([4, 5, 3], [3, 4, 5]), ([3, 6], [3, 6]), ([7, 3], [7]), ([8], [8]), ([9, 8], [8, 9]), ([10, 8, 8], [8, 10]), ([11], [11]), ([12, 11], [11, 12]), ([13, 11, 11], [11, 13]), ([14], [14]), ([15, 14], [14, 15]), ([14, 16, 11], [11, 14, 16]), ([11, 17, 8], [8, 11, 17]), ([8, 18], [8, 18]), ([19, 14], [19]), ([20], [20]), ([20], [20]), ([21, 22, 20], [20, 21, 22]), ([20, 23], [20, 23]), ([24, 20], [24]), ([25], [25]), ([25], [25]), ([26, 27, 25, 25], [25, 26, 27]), ([25, 28], [25, 28]), ([29, 28], [29]), ([30], [30]), ([30], [30]), ([31, 32, 30], [30, 31, 32]), ([30, 33], [30, 33]), ([34, 30], [34]), ([35], [35]), ([35], [35]), ([36, 37, 35, 35], [35, 36, 37]), ([35, 38], [35, 38]), ([39, 38], [39]), ([40], [40]), ([40], [40]), ([41, 42, 40], [40, 41, 42]), ([40, 43], [40, 43]), ([44, 40], [44]), ([45], [45]), ([46, 45, 45], [45, 46]), ([45], [45]), ([48, 47, 45], [45, 48]), ([47, 49, 45], [45, 47, 49]), ([45, 50], [45, 50]), ([51, 49, 0, 1, 2, 3, 4, 5, 6, 7, 8, 9, 10, 11, 12, 13, 14, 15, 16, 17, 18, 19, 20, 21, 22, 23, 24, 25, 26, 27, 28, 29, 30, 31, 32, 33, 34, 35, 36, 37, 38, 39, 40, 41, 42, 43, 44, 45, 46, 47, 48, 49, 50, 51], [51])])
def laws_FnCuts.B36 : List Nat := [0, 0, 3, 7, 15, 15, 63, 127, 255, 511, 1023, 2047, 4095, 8191, 16383, 32767, 65535, 131071, 262143, 524287, 1048575, 2097151, 2097151, 8388607, 16777215, 33554431, 67108863, 67108863, 268435455, 536870911, 1073741823, 2147483647, 2147483647, 8589934591, 17179869183, 34359738367, 68719476735, 68719476735, 274877906943, 549755813887, 1099511627775, 2199023255551, 2199023255551, 8796093022207, 17592186044415, 35184372088831, 70368744177663, 140737488355327, 70368744177663, 562949953421311, 1125899906842623, 2251799813685247, 4503599627370495]
theorem laws_FnCuts.tab36 : rtab .any (opsOf Try.f4 36) = laws_FnCuts.T36 := by kernel_rfl
theorem laws_FnCuts.bits36 : waitsOk laws_FnCuts.T36.2 laws_FnCuts.B36 = true := by kernel_rfl
set_option maxHeartbeats 8000000 in
set_option maxRecDepth 100000 in
theorem laws_FnCuts.calls (k : Nat) (A0 : Option Addr) (c0 : Nat) (l0 : List Int) (A1 : Option Addr) (c1 : Nat) (l1 : List Int) (w : World) (hr0 : Kd.C (Kd.int .u8) w A0 l0.length l0) (hc0 : l0.length ≤ c0) (hr1 : Kd.C (Kd.int .u8) w A1 l1.length l1) (hc1 : l1.length ≤ c1) (h : laws_FnCuts.f k l0 l1 = some true) :
  Calls Try.prog 4 #[.slice A0 l0.length c0, .slice A1 l1.length c1] w fun e w' => e = .returned (.bool true) ∧ Below w.heap.size w w' := by
 have hu61 := Try.underlying61
 have HR0 := Aside0.mk hr0
 have HC0 := Aside0.mk hc0
 clear hr0 hc0
 have HR1 := Aside0.mk hr1
 have HC1 := Aside0.mk hc1
 clear hr1 hc1
 have HB := Aside0.mk (Below.refl w.heap.size w)
 have H : ((laws_big.f l0 l1).bind fun t557 => (if t557 = true then (some true) else ((spec_DrawCutNumbers.f k l0).bind fun bt558 => ((impl_CutNumbers.f k bt558.1 bt558.2).bind fun bt562 => ((spec_CutNumbers.f k bt558.1 bt558.2).bind fun bt566 => (if (bt562.2 != bt566.2) = true then (laws_FnCuts.j0 k l1 bt558.1 bt562.1 bt562.2 bt566.1 true) else ((laws_sameInts.f k bt562.1 bt566.1).bind fun t570 => (laws_FnCuts.j0 k l1 bt558.1 bt562.1 bt562.2 bt566.1 (!t570))))))))) = some true := h
 clear h
 replace H := Option.bind_eq_some_iff.mp H
 obtain ⟨t557, A30, H⟩ := H
 replace H : (if t557 = true then (some true) else ((spec_DrawCutNumbers.f k l0).bind fun bt558 => ((impl_CutNumbers.f k bt558.1 bt558.2).bind fun bt562 => ((spec_CutNumbers.f k bt558.1 bt558.2).bind fun bt566 => (if (bt562.2 != bt566.2) = true then (laws_FnCuts.j0 k l1 bt558.1 bt562.1 bt562.2 bt566.1 true) else ((laws_sameInts.f k bt562.1 bt566.1).bind fun t570 => (laws_FnCuts.j0 k l1 bt558.1 bt562.1 bt562.2 bt566.1 (!t570)))))))) = some true := H
 have A3 := Aside0.mk A30
 clear A30
 by_cases c4 : t557 = true
 ·subst c4
  have H1 : (some true) = some true := rfl
  clear H
  have H := H1
  clear H1
  have HRT := Option.some.inj H
  clear H
  go_enter Try.func4, Try.ntmps4
  go_wp2_with (first | ((with_reducible refine gate_callee (f := 24) rfl ?_); refine goesL_ (some 60) rfl rfl Try.func24 (by kernel_rfl) rfl #[.slice A0 l0.length c0, .slice A1 l1.length c1] rfl qA ?_; (with_reducible refine (laws_big.calls _ _ l0 _ _ l1 true _ ?side1 ?side2 ?side3 ?side4 A3.out).mono ?_); (case side1 => exact uC HR0.out); (case side2 => exact HC0.out); (case side3 => exact uC HR1.out); (case side4 => exact HC1.out); rintro e w' ⟨rfl, ⟨nd, rfl⟩⟩; refine ⟨_, rfl, ?_⟩))
  go_ret
  exact ⟨qe, qB HB⟩
 ·replace c4 := Bool.eq_false_iff.mpr c4
  subst c4
  rw [if_neg (show ¬ (false = true) by decide)] at H
  replace H := Option.bind_eq_some_iff.mp H
  obtain ⟨⟨t558, t559⟩, A50, H⟩ := H
  replace H : ((impl_CutNumbers.f k t558 t559).bind fun bt562 => ((spec_CutNumbers.f k t558 t559).bind fun bt566 => (if (bt562.2 != bt566.2) = true then (laws_FnCuts.j0 k l1 t558 bt562.1 bt562.2 bt566.1 true) else ((laws_sameInts.f k bt562.1 bt566.1).bind fun t570 => (laws_FnCuts.j0 k l1 t558 bt562.1 bt562.2 bt566.1 (!t570)))))) = some true := H
  have A5 := Aside0.mk A50
  clear A50
  replace H := Option.bind_eq_some_iff.mp H
  obtain ⟨⟨t562, t563⟩, A60, H⟩ := H
  replace H : ((spec_CutNumbers.f k t558 t559).bind fun bt566 => (if (t563 != bt566.2) = true then (laws_FnCuts.j0 k l1 t558 t562 t563 bt566.1 true) else ((laws_sameInts.f k t562 bt566.1).bind fun t570 => (laws_FnCuts.j0 k l1 t558 t562 t563 bt566.1 (!t570))))) = some true := H
  have A6 := Aside0.mk A60
  clear A60
  replace H := Option.bind_eq_some_iff.mp H
  obtain ⟨⟨t566, t567⟩, A70, H⟩ := H
  replace H : (if (t563 != t567) = true then (laws_FnCuts.j0 k l1 t558 t562 t563 t566 true) else ((laws_sameInts.f k t562 t566).bind fun t570 => (laws_FnCuts.j0 k l1 t558 t562 t563 t566 (!t570)))) = some true := H
  have A7 := Aside0.mk A70
  clear A70
  have HC8 := Aside0.mk H
  clear H
  go_enter Try.func4, Try.ntmps4
  go_upto_region 6 with (first | ((with_reducible refine gate_callee (f := 24) rfl ?_); refine goesL_ (some 60) rfl rfl Try.func24 (by kernel_rfl) rfl #[.slice A0 l0.length c0, .slice A1 l1.length c1] rfl qA ?_; (with_reducible refine (laws_big.calls _ _ l0 _ _ l1 false _ ?side1 ?side2 ?side3 ?side4 A3.out).mono ?_); (case side1 => exact uC HR0.out); (case side2 => exact HC0.out); (case side3 => exact uC HR1.out); (case side4 => exact HC1.out); rintro e w' ⟨rfl, ⟨nd, rfl⟩⟩; refine ⟨_, rfl, ?_⟩) | ((with_reducible refine gate_callee (f := 25) rfl ?_); refine goesL_ (some 63) rfl rfl Try.func25 (by kernel_rfl) rfl #[.slice A0 l0.length c0] rfl qA ?_; (with_reducible refine (spec_DrawCutNumbers.calls k _ _ l0 t558 t559 _ ?side1 ?side2 A5.out).mono ?_); (case side1 => exact uC HR0.out); (case side2 => exact HC0.out); rintro e w9 ⟨v560, rfl, ho0, hb⟩; refine ⟨_, rfl, ?_⟩; have n0_ := Aside0.mk (Kd.R_lower ho0 (below_size (qB HB))); have n1_ := Aside0.mk (below_step (qB HB) hb); clear HB; have HO561 := n0_; have HB := n1_; clear n0_ n1_; (try clear hb); (try clear hb2); (try clear hk); (try clear hi); (try clear ho0); obtain ⟨Ao10, co10, eo10⟩ := Kd.R_slice HO561.out; subst eo10) | ((with_reducible refine gate_callee (f := 26) rfl ?_); refine goesL_ (some 69) rfl rfl Try.func26 (by kernel_rfl) rfl #[.slice Ao10 t558.length co10, .int .i64 t559] rfl qA ?_; (with_reducible refine (impl_CutNumbers.calls k _ _ t558 t559 t562 t563 _ ?side1 ?side2 A6.out).mono ?_); (case side1 => exact uC (Kd.R_reads' HO561.out).2.2); (case side2 => exact (Kd.R_reads' HO561.out).2.1); rintro e w11 ⟨v564, rfl, ho0, hb⟩; refine ⟨_, rfl, ?_⟩; have n0_ := Aside0.mk (Kd.R_elder' (qR HO561) (Kd.R_base ho0) hb); have n1_ := Aside0.mk (Kd.R_lower (Kd.R_new' ho0 (Kd.R_lt (qR HO561))) (below_size (qB HB))); have n2_ := Aside0.mk (below_step (qB HB) hb); clear HO561; clear HB; have HO561 := n0_; have HO565 := n1_; have HB := n2_; clear n0_ n1_ n2_; (try clear hb); (try clear hb2); (try clear hk); (try clear hi); (try clear ho0)) | ((with_reducible refine gate_callee (f := 27) rfl ?_); refine goesL_ (some 75) rfl rfl Try.func27 (by kernel_rfl) rfl #[.slice Ao10 t558.length co10, .int .i64 t559] rfl qA ?_; (with_reducible refine (spec_CutNumbers.calls k _ _ t558 t559 t566 t567 _ ?side1 ?side2 A7.out).mono ?_); (case side1 => exact uC (Kd.R_reads' HO561.out).2.2); (case side2 => exact (Kd.R_reads' HO561.out).2.1); rintro e w12 ⟨v568, rfl, ho0, hb⟩; refine ⟨_, rfl, ?_⟩; have n0_ := Aside0.mk (Kd.R_elder' (qR HO561) (Kd.R_base ho0) hb); have n1_ := Aside0.mk (Kd.R_elder' (qR HO565) (Kd.R_base ho0) hb); have n2_ := Aside0.mk (Kd.R_lower (Kd.R_new' (Kd.R_new' ho0 (Kd.R_lt (qR HO561))) (Kd.R_lt (qR HO565))) (below_size (qB HB))); have n3_ := Aside0.mk (below_step (qB HB) hb); clear HO561; clear HO565; clear HB; have HO561 := n0_; have HO565 := n1_; have HO569 := n2_; have HB := n3_; clear n0_ n1_ n2_ n3_; (try clear hb); (try clear hb2); (try clear hk); (try clear hi); (try clear ho0)))
  (try simp only [Act.put, List.setIfInBounds_toArray, List.set_cons_zero, List.set_cons_succ])
  go_cut [86] (fun v86 wc => ∃ (kq : Nat) (x86_7 : Bool), v86 = .bool x86_7 ∧ Aside0 (laws_FnCuts.j0 kq l1 t558 t562 t563 t566 x86_7 = some true) ∧ Aside0 (kq ≤ k) ∧ Aside0 (Kd.R (Kd.int .i64) 3 wc w.heap.size (fun k_ => some k_ ≠ (v564 : Value).ownBlock ∧ some k_ ≠ (v568 : Value).ownBlock) (.slice Ao10 t558.length co10) t558) ∧ Aside0 (Kd.R (Kd.int .i64) 3 wc w.heap.size (fun k_ => some k_ ≠ ((.slice Ao10 t558.length co10) : Value).ownBlock ∧ some k_ ≠ (v568 : Value).ownBlock) v564 t562) ∧ Aside0 (Kd.R (Kd.int .i64) 3 wc w.heap.size (fun k_ => some k_ ≠ ((.slice Ao10 t558.length co10) : Value).ownBlock ∧ some k_ ≠ (v564 : Value).ownBlock) v568 t566) ∧ Aside0 (Below w.heap.size w wc))
  case first => as_aux_lemma =>
   have H := HC8.out
   clear HC8
   by_cases c13 : (t563 != t567) = true
   ·rw [if_pos c13] at H
    have c13b0 : (t563 != t567) = true := c13
    (try (have c13b1 : decide (t563 = t567) = false := by simpa using c13))
    (try (have c13b2 : (t563 == t567) = false := by simpa using c13))
    (try (have c13b3 : ¬ (t563 = t567) := by simpa using c13))
    clear c13
    (first | rw [c13b0] | (simp only [i64_w, i32_w]; rw [c13b0]) | skip)
    have H' := Aside0.mk H
    clear H
    go_wp2
    go_meet
    case rel => exact ⟨_, (true), qs, H', ⟨by first | omega | exact Nat.le_refl _⟩, ⟨by exact uR (Kd.R_mono HO561.out (fun _ hk => ⟨hk.1.2, hk.2⟩))⟩, ⟨by exact uR (Kd.R_mono HO565.out (fun _ hk => ⟨hk.1.2, hk.2⟩))⟩, ⟨by exact uR (Kd.R_mono HO569.out (fun _ hk => ⟨hk.1.2, hk.2⟩))⟩, ⟨qB HB⟩⟩
   ·rw [if_neg c13] at H
    have c13b0 : (t563 != t567) = false := by simpa using c13
    (try (have c13b1 : decide (t563 = t567) = true := by simpa using c13))
    (try (have c13b2 : (t563 == t567) = true := by simpa using c13))
    clear c13
    (first | rw [c13b0] | (simp only [i64_w, i32_w]; rw [c13b0]) | skip)
    replace H := Option.bind_eq_some_iff.mp H
    obtain ⟨t570, A140, H⟩ := H
    replace H : (laws_FnCuts.j0 k l1 t558 t562 t563 t566 (!t570)) = some true := H
    have A14 := Aside0.mk A140
    clear A140
    have H' := Aside0.mk H
    clear H
    obtain ⟨Ao15, co15, eo15⟩ := Kd.R_slice HO565.out
    subst eo15
    obtain ⟨Ao16, co16, eo16⟩ := Kd.R_slice HO569.out
    subst eo16
    go_wp2_with (first | (go_at_call 28; (with_reducible refine (laws_sameInts.calls k _ _ t562 _ _ t566 t570 _ ?side1 ?side2 ?side3 ?side4 A14.out).mono ?_); (case side1 => exact uC (Kd.R_reads' HO565.out).2.2); (case side2 => exact (Kd.R_reads' HO565.out).2.1); (case side3 => exact uC (Kd.R_reads' HO569.out).2.2); (case side4 => exact (Kd.R_reads' HO569.out).2.1); rintro e w' ⟨rfl, ⟨nd, rfl⟩⟩))
    go_meet
    case rel => exact ⟨_, (!t570), qs, H', ⟨by first | omega | exact Nat.le_refl _⟩, ⟨by exact uR (Kd.R_mono HO561.out (fun _ hk => ⟨hk.1.2, hk.2⟩))⟩, ⟨by exact uR (Kd.R_mono HO565.out (fun _ hk => ⟨hk.1.2, hk.2⟩))⟩, ⟨by exact uR (Kd.R_mono HO569.out (fun _ hk => ⟨hk.1.2, hk.2⟩))⟩, ⟨qB HB⟩⟩
  case rest => as_aux_lemma =>
   clear HC8
   try clear c1
   try clear c2
   try clear p2
   try clear c4
   try clear c13
   try clear c13b0
   try clear c13b1
   try clear c13b2
   obtain ⟨kq, x86_7, rfl, HA, HJ7, HO_5, HO_7, HO_9, HB⟩ := hcut
   cases kq with
   | zero => exact absurd HA.out (by simp [laws_FnCuts.j0])
   | succ kj7 =>
    have H := HA.out
    clear HA
    simp only [laws_FnCuts.j0] at H
    by_cases c17 : x86_7 = true
    ·subst c17
     rw [if_pos rfl] at H
     exact absurd H (by simp)
    ·replace c17 := Bool.eq_false_iff.mpr c17
     subst c17
     rw [if_neg (show ¬ (false = true) by decide)] at H
     have HC18 := Aside0.mk H
     clear H
     go_upto_if 87 with (fail)
     go_cut [] (fun wc => ∃ (kq : Nat), Aside0 (laws_FnCuts.j1 kq l1 = some true) ∧ Aside0 (kq ≤ kj7) ∧ Aside0 (Below w.heap.size w wc))
     case first => as_aux_lemma =>
      have H := HC18.out
      clear HC18
      by_cases c19 : t563 = true
      ·subst c19
       rw [if_pos rfl] at H
       replace H := Option.bind_eq_some_iff.mp H
       obtain ⟨⟨t571, t572, t573⟩, A200, H⟩ := H
       replace H : ((spec_RecoverRecords.f kj7 t566).bind fun bt576 => ((spec_RecoverRecords.f kj7 t558).bind fun bt581 => (if t573 = true then (if bt576.2.2 = true then (if bt581.2.2 = true then ((laws_pSameRecords.f kj7 t571 bt576.1).bind fun t586 => (if t586 = true then (if t572 = bt576.2.1 then (if bt576.2.1 > bt581.2.1 then (some false) else (if bt576.2.1 > (t566.length : Int) then (some false) else (if bt576.2.1 = (wrap64 (5 * (bt576.1.length : Int))) then (if 0 ≤ (bt576.1.length : Int) then (if (bt576.1.length : Int) ≤ (bt581.1.length : Int) then ((laws_pSameRecords.f kj7 (bt581.1.take ((bt576.1.length : Int) : Int).toNat) bt576.1).bind fun t591 => (if t591 = true then (laws_FnCuts.j1 kj7 l1) else (some false))) else (none)) else (none)) else (some false)))) else (some false)) else (some false))) else (some false)) else (some false)) else (some false)))) = some true := H
       have A20 := Aside0.mk A200
       clear A200
       replace H := Option.bind_eq_some_iff.mp H
       obtain ⟨⟨t576, t577, t578⟩, A210, H⟩ := H
       replace H : ((spec_RecoverRecords.f kj7 t558).bind fun bt581 => (if t573 = true then (if t578 = true then (if bt581.2.2 = true then ((laws_pSameRecords.f kj7 t571 t576).bind fun t586 => (if t586 = true then (if t572 = t577 then (if t577 > bt581.2.1 then (some false) else (if t577 > (t566.length : Int) then (some false) else (if t577 = (wrap64 (5 * (t576.length : Int))) then (if 0 ≤ (t576.length : Int) then (if (t576.length : Int) ≤ (bt581.1.length : Int) then ((laws_pSameRecords.f kj7 (bt581.1.take ((t576.length : Int) : Int).toNat) t576).bind fun t591 => (if t591 = true then (laws_FnCuts.j1 kj7 l1) else (some false))) else (none)) else (none)) else (some false)))) else (some false)) else (some false))) else (some false)) else (some false)) else (some false))) = some true := H
       have A21 := Aside0.mk A210
       clear A210
       replace H := Option.bind_eq_some_iff.mp H
       obtain ⟨⟨t581, t582, t583⟩, A220, H⟩ := H
       replace H : (if t573 = true then (if t578 = true then (if t583 = true then ((laws_pSameRecords.f kj7 t571 t576).bind fun t586 => (if t586 = true then (if t572 = t577 then (if t577 > t582 then (some false) else (if t577 > (t566.length : Int) then (some false) else (if t577 = (wrap64 (5 * (t576.length : Int))) then (if 0 ≤ (t576.length : Int) then (if (t576.length : Int) ≤ (t581.length : Int) then ((laws_pSameRecords.f kj7 (t581.take ((t576.length : Int) : Int).toNat) t576).bind fun t591 => (if t591 = true then (laws_FnCuts.j1 kj7 l1) else (some false))) else (none)) else (none)) else (some false)))) else (some false)) else (some false))) else (some false)) else (some false)) else (some false)) = some true := H
       have A22 := Aside0.mk A220
       clear A220
       by_cases c23 : t573 = true
       ·subst c23
        rw [if_pos rfl] at H
        by_cases c24 : t578 = true
        ·subst c24
         rw [if_pos rfl] at H
         by_cases c25 : t583 = true
         ·subst c25
          rw [if_pos rfl] at H
          replace H := Option.bind_eq_some_iff.mp H
          obtain ⟨t586, A260, H⟩ := H
          replace H : (if t586 = true then (if t572 = t577 then (if t577 > t582 then (some false) else (if t577 > (t566.length : Int) then (some false) else (if t577 = (wrap64 (5 * (t576.length : Int))) then (if 0 ≤ (t576.length : Int) then (if (t576.length : Int) ≤ (t581.length : Int) then ((laws_pSameRecords.f kj7 (t581.take ((t576.length : Int) : Int).toNat) t576).bind fun t591 => (if t591 = true then (laws_FnCuts.j1 kj7 l1) else (some false))) else (none)) else (none)) else (some false)))) else (some false)) else (some false)) = some true := H
          have A26 := Aside0.mk A260
          clear A260
          by_cases c27 : t586 = true
          ·subst c27
           rw [if_pos rfl] at H
           by_cases c28 : t572 = t577
           ·rw [if_pos c28] at H
            have c28b0 : (t572 == t577) = true := beq_iff_eq.mpr c28
            have c28b1 : (t572 != t577) = false := bne_eq_false_iff_eq.mpr c28
            clear c28
            (first | rw [c28b0] | (simp only [i64_w, i32_w]; rw [c28b0]) | skip)
            by_cases c29 : t577 > t582
            ·rw [if_pos c29] at H
             have c29b0 : decide (t582 < t577) = true := decide_eq_true c29
             clear c29
             exact absurd H (by simp)
            ·rw [if_neg c29] at H
             have c29b0 : decide (t582 < t577) = false := decide_eq_false c29
             clear c29
             by_cases c30 : t577 > (t566.length : Int)
             ·rw [if_pos c30] at H
              have c30b0 : decide ((t566.length : Int) < t577) = true := decide_eq_true c30
              clear c30
              exact absurd H (by simp)
             ·rw [if_neg c30] at H
              have c30b0 : decide ((t566.length : Int) < t577) = false := decide_eq_false c30
              clear c30
              by_cases c31 : t577 = (wrap64 (5 * (t576.length : Int)))
              ·rw [if_pos c31] at H
               have c31b0 : (t577 == (wrap64 (5 * (t576.length : Int)))) = true := beq_iff_eq.mpr c31
               have c31b1 : (t577 != (wrap64 (5 * (t576.length : Int)))) = false := bne_eq_false_iff_eq.mpr c31
               clear c31
               by_cases c32 : 0 ≤ (t576.length : Int)
               ·rw [if_pos c32] at H
                have c32b0 := eq_true c32
                have c32b1 : decide (0 ≤ (t576.length : Int)) = true := decide_eq_true c32
                clear c32
                by_cases c33 : (t576.length : Int) ≤ (t581.length : Int)
                ·rw [if_pos c33] at H
                 have c33b0 := eq_true c33
                 have c33b1 : decide ((t576.length : Int) ≤ (t581.length : Int)) = true := decide_eq_true c33
                 clear c33
                 obtain ⟨y587, hy587⟩ : ∃ y_ : List (S61), y_ = (t581.take ((t576.length : Int) : Int).toNat) := ⟨_, rfl⟩
                 replace H : ((laws_pSameRecords.f kj7 y587 t576).bind fun t591 => (if t591 = true then (laws_FnCuts.j1 kj7 l1) else (some false))) = some true := by first | (rw [hy587]; with_reducible exact H) | (have H2_ := (Option.bind_some _ _).symm.trans H; rw [hy587]; with_reducible exact H2_) | (have H2_ := (Option.bind_some _ _).symm.trans H; with_reducible exact H2_) | with_reducible exact H | (rw [hy587]; exact H) | exact H
                 have Ny587 := Aside0.mk hy587
                 clear hy587
                 replace H := Option.bind_eq_some_iff.mp H
                 obtain ⟨t591, A340, H⟩ := H
                 replace H : (if t591 = true then (laws_FnCuts.j1 kj7 l1) else (some false)) = some true := H
                 have A34 := Aside0.mk A340
                 clear A340
                 by_cases c35 : t591 = true
                 ·subst c35
                  rw [if_pos rfl] at H
                  have H' := Aside0.mk H
                  clear H
                  obtain ⟨Ao36, co36, eo36⟩ := Kd.R_slice HO_7.out
                  subst eo36
                  go_wp2_with (first | ((with_reducible refine gate_callee (f := 29) rfl ?_); refine goesL_ (some 90) rfl rfl Try.func29 (by kernel_rfl) rfl #[.slice Ao36 t562.length co36] rfl qA ?_; (with_reducible refine (impl_RecoverRecords.calls kj7 _ _ t562 t571 t572 true _ ?side1 ?side2 A20.out).mono ?_); (case side1 => exact uC (Kd.R_reads' HO_7.out).2.2); (case side2 => exact (Kd.R_reads' HO_7.out).2.1); rintro e w37 ⟨v574, rfl, ho0, hb⟩; refine ⟨_, rfl, ?_⟩; have n0_ := Aside0.mk (Kd.R_below (qR HO_5) hb); have n1_ := Aside0.mk (Kd.R_below (qR HO_7) hb); have n2_ := Aside0.mk (Kd.R_below (qR HO_9) hb); have n3_ := Aside0.mk (Kd.R_lower ho0 (below_size (qB HB))); have n4_ := Aside0.mk (below_step (qB HB) hb); clear HO_5; clear HO_7; clear HO_9; clear HB; have HO_5 := n0_; have HO_7 := n1_; have HO_9 := n2_; have HO575 := n3_; have HB := n4_; clear n0_ n1_ n2_ n3_ n4_; (try clear hb); (try clear hb2); (try clear hk); (try clear hi); (try clear ho0); obtain ⟨Ao38, co38, eo38⟩ := Kd.R_slice HO_9.out; subst eo38) | ((with_reducible refine gate_callee (f := 30) rfl ?_); refine goesL_ (some 96) rfl rfl Try.func30 (by kernel_rfl) rfl #[.slice Ao38 t566.length co38] rfl qA ?_; (with_reducible refine (spec_RecoverRecords.calls kj7 _ _ t566 t576 t577 true _ ?side1 ?side2 A21.out).mono ?_); (case side1 => exact uC (Kd.R_reads' HO_9.out).2.2); (case side2 => exact (Kd.R_reads' HO_9.out).2.1); rintro e w39 ⟨v579, rfl, ho0, hb⟩; refine ⟨_, rfl, ?_⟩; have n0_ := Aside0.mk (Kd.R_below (qR HO_5) hb); have n1_ := Aside0.mk (Kd.R_below (qR HO_7) hb); have n2_ := Aside0.mk (Kd.R_below (qR HO_9) hb); have n3_ := Aside0.mk (Kd.R_elder' (qR HO575) (Kd.R_base ho0) hb); have n4_ := Aside0.mk (Kd.R_lower (Kd.R_new' ho0 (Kd.R_lt (qR HO575))) (below_size (qB HB))); have n5_ := Aside0.mk (below_step (qB HB) hb); clear HO_5; clear HO_7; clear HO_9; clear HO575; clear HB; have HO_5 := n0_; have HO_7 := n1_; have HO_9 := n2_; have HO575 := n3_; have HO580 := n4_; have HB := n5_; clear n0_ n1_ n2_ n3_ n4_ n5_; (try clear hb); (try clear hb2); (try clear hk); (try clear hi); (try clear ho0)) | ((with_reducible refine gate_callee (f := 30) rfl ?_); refine goesL_ (some 102) rfl rfl Try.func30 (by kernel_rfl) rfl #[.slice Ao10 t558.length co10] rfl qA ?_; (with_reducible refine (spec_RecoverRecords.calls kj7 _ _ t558 t581 t582 true _ ?side1 ?side2 A22.out).mono ?_); (case side1 => exact uC (Kd.R_reads' HO_5.out).2.2); (case side2 => exact (Kd.R_reads' HO_5.out).2.1); rintro e w40 ⟨v584, rfl, ho0, hb⟩; refine ⟨_, rfl, ?_⟩; have n0_ := Aside0.mk (Kd.R_below (qR HO_5) hb); have n1_ := Aside0.mk (Kd.R_below (qR HO_7) hb); have n2_ := Aside0.mk (Kd.R_below (qR HO_9) hb); have n3_ := Aside0.mk (Kd.R_elder' (qR HO575) (Kd.R_base ho0) hb); have n4_ := Aside0.mk (Kd.R_elder' (qR HO580) (Kd.R_base ho0) hb); have n5_ := Aside0.mk (Kd.R_lower (Kd.R_new' (Kd.R_new' ho0 (Kd.R_lt (qR HO575))) (Kd.R_lt (qR HO580))) (below_size (qB HB))); have n6_ := Aside0.mk (below_step (qB HB) hb); clear HO_5; clear HO_7; clear HO_9; clear HO575; clear HO580; clear HB; have HO_5 := n0_; have HO_7 := n1_; have HO_9 := n2_; have HO575 := n3_; have HO580 := n4_; have HO585 := n5_; have HB := n6_; clear n0_ n1_ n2_ n3_ n4_ n5_ n6_; (try clear hb); (try clear hb2); (try clear hk); (try clear hi); (try clear ho0); obtain ⟨Ao41, co41, eo41⟩ := Kd.R_slice HO575.out; subst eo41; obtain ⟨Ao42, co42, eo42⟩ := Kd.R_slice HO580.out; subst eo42) | (go_at_call 31; (with_reducible refine (laws_pSameRecords.calls kj7 _ _ t571 _ _ t576 true _ ?side1 ?side2 ?side3 ?side4 A26.out).mono ?_); (case side1 => exact uC (Kd.R_reads' HO575.out).2.2); (case side2 => exact (Kd.R_reads' HO575.out).2.1); (case side3 => exact uC (Kd.R_reads' HO580.out).2.2); (case side4 => exact (Kd.R_reads' HO580.out).2.1); rintro e w' ⟨rfl, ⟨nd, rfl⟩⟩; obtain ⟨Ao44, co44, eo44⟩ := Kd.R_slice HO585.out; subst eo44; have q43 : ((t576.length : Int) : Int) ≤ ((t581.length : Int) : Int) := of_decide_eq_true qa; obtain ⟨i043, hi043, _, hsz43, _⟩ := info_parts info61; have hroom43 : t581.length ≤ co44 := (Kd.R_reads' HO585.out).2.1; have hC43 : Kd.C k61 _ Ao44 t581.length t581 := (Kd.R_reads' HO585.out).2.2; have hcut43 := cut_to (P := Try.prog) 49 61 .i64 Try.underlying49 hi043 Ao44 t581.length co44 (t576.length : Int) (of_decide_eq_true qa) q43 hroom43; have hr43 := Kd.C_take (m := ((t576.length : Int) : Int).toNat) hC43 (by omega); have hy43 : y587.length = ((t576.length : Int) : Int).toNat := (by rw [Ny587.out, List.length_take]; omega); rw [← Ny587.out] at hr43; rw [← hy43] at hcut43; have HR590 := Aside0.mk hr43; have HC590 := Aside0.mk (show y587.length ≤ co44 from by omega); clear hr43 hC43 hroom43 hi043 hsz43; have KY43 := Aside0.mk hy43; clear hy43; have KL43 := Aside0.mk (show ((t576.length : Int) : Int).toNat ≤ t581.length from by omega); replace q43 := eq_true q43) | (go_at_call 31; (with_reducible refine (laws_pSameRecords.calls kj7 _ _ y587 _ _ t576 true _ ?side1 ?side2 ?side3 ?side4 A34.out).mono ?_); (case side1 => repeat (first | exact (by repeat (first | (with_reducible exact HR590.out) | (with_reducible refine Kd.C_alloc ?_ _) | (with_reducible refine Kd.C_drewN ?_ _) | (with_reducible refine Kd.C_drew ?_) | exact HR590.out)) | (with_reducible refine Kd.C_alloc ?_ _) | (with_reducible refine Kd.C_drewN ?_ _) | (with_reducible refine Kd.C_drew ?_))); (case side2 => exact HC590.out); (case side3 => exact uC (Kd.R_reads' HO580.out).2.2); (case side4 => exact (Kd.R_reads' HO580.out).2.1); rintro e w' ⟨rfl, ⟨nd, rfl⟩⟩))
                  go_meet
                  case rel => exact ⟨_, H', ⟨by have := HJ7.out; first | omega | exact Nat.le_refl _⟩, ⟨qB HB⟩⟩
                 ·replace c35 := Bool.eq_false_iff.mpr c35
                  subst c35
                  rw [if_neg (show ¬ (false = true) by decide)] at H
                  exact absurd H (by simp)
                ·rw [if_neg c33] at H
                 exact absurd H (by simp)
               ·rw [if_neg c32] at H
                exact absurd H (by simp)
              ·rw [if_neg c31] at H
               have c31b0 : (t577 == (wrap64 (5 * (t576.length : Int)))) = false := beq_eq_false_iff_ne.mpr c31
               have c31b1 : (t577 != (wrap64 (5 * (t576.length : Int)))) = true := bne_iff_ne.mpr c31
               exact absurd H (by simp)
           ·rw [if_neg c28] at H
            have c28b0 : (t572 == t577) = false := beq_eq_false_iff_ne.mpr c28
            have c28b1 : (t572 != t577) = true := bne_iff_ne.mpr c28
            (first | rw [c28b0] | (simp only [i64_w, i32_w]; rw [c28b0]) | skip)
            exact absurd H (by simp)
          ·replace c27 := Bool.eq_false_iff.mpr c27
           subst c27
           rw [if_neg (show ¬ (false = true) by decide)] at H
           exact absurd H (by simp)
         ·replace c25 := Bool.eq_false_iff.mpr c25
          subst c25
          rw [if_neg (show ¬ (false = true) by decide)] at H
          exact absurd H (by simp)
        ·replace c24 := Bool.eq_false_iff.mpr c24
         subst c24
         rw [if_neg (show ¬ (false = true) by decide)] at H
         exact absurd H (by simp)
       ·replace c23 := Bool.eq_false_iff.mpr c23
        subst c23
        rw [if_neg (show ¬ (false = true) by decide)] at H
        exact absurd H (by simp)
      ·replace c19 := Bool.eq_false_iff.mpr c19
       subst c19
       rw [if_neg (show ¬ (false = true) by decide)] at H
       have H' := Aside0.mk H
       clear H
       go_wp2
       go_meet
       case rel => exact ⟨_, H', ⟨by have := HJ7.out; first | omega | exact Nat.le_refl _⟩, ⟨qB HB⟩⟩
     case rest => as_aux_lemma =>
      clear HC18
      try clear c1
      try clear c2
      try clear p2
      try clear c3
      try clear c4
      try clear q4
      try clear p6
      try clear c13
      try clear c13b0
      try clear c13b1
      try clear c13b2
      try clear c17
      try clear c19
      try clear c23
      try clear c24
      try clear c25
      try clear c26
      try clear c27
      try clear c28
      try clear c28b0
      try clear c28b1
      try clear c29
      try clear c29b0
      try clear c30
      try clear c30b0
      try clear c31
      try clear c31b0
      try clear c31b1
      try clear c32
      try clear c32b0
      try clear c32b1
      try clear c33
      try clear c33b0
      try clear c33b1
      try clear c35
      try clear q43
      try clear p2
      try clear q43
      obtain ⟨kq, HA, HJ17, HB⟩ := hcut
      cases kq with
      | zero => exact absurd HA.out (by simp [laws_FnCuts.j1])
      | succ kj17 =>
       have H := HA.out
       clear HA
       simp only [laws_FnCuts.j1] at H
       replace H := Option.bind_eq_some_iff.mp H
       obtain ⟨⟨t592, t593, t594⟩, A450, H⟩ := H
       replace H : ((impl_ChangeNumber.f kj17 t592 t593 t594).bind fun bt597 => ((spec_ChangeNumber.f kj17 t592 t593 t594).bind fun bt601 => (if (bt597.2 != bt601.2) = true then (laws_FnCuts.j2 kj17 l1 t592 t593 bt597.1 bt597.2 bt601.1 true) else ((laws_sameInts.f kj17 bt597.1 bt601.1).bind fun t605 => (laws_FnCuts.j2 kj17 l1 t592 t593 bt597.1 bt597.2 bt601.1 (!t605)))))) = some true := H
       have A45 := Aside0.mk A450
       clear A450
       replace H := Option.bind_eq_some_iff.mp H
       obtain ⟨⟨t597, t598⟩, A460, H⟩ := H
       replace H : ((spec_ChangeNumber.f kj17 t592 t593 t594).bind fun bt601 => (if (t598 != bt601.2) = true then (laws_FnCuts.j2 kj17 l1 t592 t593 t597 t598 bt601.1 true) else ((laws_sameInts.f kj17 t597 bt601.1).bind fun t605 => (laws_FnCuts.j2 kj17 l1 t592 t593 t597 t598 bt601.1 (!t605))))) = some true := H
       have A46 := Aside0.mk A460
       clear A460
       replace H := Option.bind_eq_some_iff.mp H
       obtain ⟨⟨t601, t602⟩, A470, H⟩ := H
       replace H : (if (t598 != t602) = true then (laws_FnCuts.j2 kj17 l1 t592 t593 t597 t598 t601 true) else ((laws_sameInts.f kj17 t597 t601).bind fun t605 => (laws_FnCuts.j2 kj17 l1 t592 t593 t597 t598 t601 (!t605)))) = some true := H
       have A47 := Aside0.mk A470
       clear A470
       have HC48 := Aside0.mk H
       clear H
       go_upto_region 17 with (first | ((with_reducible refine gate_callee (f := 32) rfl ?_); refine goesL_ (some 156) rfl rfl Try.func32 (by kernel_rfl) rfl #[.slice A1 l1.length c1] rfl qA ?_; (with_reducible refine (spec_DrawChangeNumber.calls kj17 _ _ l1 t592 t593 t594 _ ?side1 ?side2 A45.out).mono ?_); (case side1 => exact uC (Kd.C_below HR1.out HB.out)); (case side2 => exact HC1.out); rintro e w49 ⟨v595, rfl, ho0, hb⟩; refine ⟨_, rfl, ?_⟩; have n0_ := Aside0.mk (Kd.R_lower ho0 (below_size (qB HB))); have n1_ := Aside0.mk (below_step (qB HB) hb); clear HB; have HO596 := n0_; have HB := n1_; clear n0_ n1_; (try clear hb); (try clear hb2); (try clear hk); (try clear hi); (try clear ho0); obtain ⟨Ao50, co50, eo50⟩ := Kd.R_slice HO596.out; subst eo50) | ((with_reducible refine gate_callee (f := 33) rfl ?_); refine goesL_ (some 164) rfl rfl Try.func33 (by kernel_rfl) rfl #[.slice Ao50 t592.length co50, .int .i64 t593, .int .i64 t594] rfl qA ?_; (with_reducible refine (impl_ChangeNumber.calls kj17 _ _ t592 t593 t594 t597 t598 _ ?side1 ?side2 A46.out).mono ?_); (case side1 => exact uC (Kd.R_reads' HO596.out).2.2); (case side2 => exact (Kd.R_reads' HO596.out).2.1); rintro e w51 ⟨v599, rfl, ho0, hb⟩; refine ⟨_, rfl, ?_⟩; have n0_ := Aside0.mk (Kd.R_elder' (qR HO596) (Kd.R_base ho0) hb); have n1_ := Aside0.mk (Kd.R_lower (Kd.R_new' ho0 (Kd.R_lt (qR HO596))) (below_size (qB HB))); have n2_ := Aside0.mk (below_step (qB HB) hb); clear HO596; clear HB; have HO596 := n0_; have HO600 := n1_; have HB := n2_; clear n0_ n1_ n2_; (try clear hb); (try clear hb2); (try clear hk); (try clear hi); (try clear ho0)) | ((with_reducible refine gate_callee (f := 34) rfl ?_); refine goesL_ (some 171) rfl rfl Try.func34 (by kernel_rfl) rfl #[.slice Ao50 t592.length co50, .int .i64 t593, .int .i64 t594] rfl qA ?_; (with_reducible refine (spec_ChangeNumber.calls kj17 _ _ t592 t593 t594 t601 t602 _ ?side1 ?side2 A47.out).mono ?_); (case side1 => exact uC (Kd.R_reads' HO596.out).2.2); (case side2 => exact (Kd.R_reads' HO596.out).2.1); rintro e w52 ⟨v603, rfl, ho0, hb⟩; refine ⟨_, rfl, ?_⟩; have n0_ := Aside0.mk (Kd.R_elder' (qR HO596) (Kd.R_base ho0) hb); have n1_ := Aside0.mk (Kd.R_elder' (qR HO600) (Kd.R_base ho0) hb); have n2_ := Aside0.mk (Kd.R_lower (Kd.R_new' (Kd.R_new' ho0 (Kd.R_lt (qR HO596))) (Kd.R_lt (qR HO600))) (below_size (qB HB))); have n3_ := Aside0.mk (below_step (qB HB) hb); clear HO596; clear HO600; clear HB; have HO596 := n0_; have HO600 := n1_; have HO604 := n2_; have HB := n3_; clear n0_ n1_ n2_ n3_; (try clear hb); (try clear hb2); (try clear hk); (try clear hi); (try clear ho0)))
       (try simp only [Act.put, List.setIfInBounds_toArray, List.set_cons_zero, List.set_cons_succ])
       go_cut [182] (fun v182 wc => ∃ (kq : Nat) (x182_47 : Bool), v182 = .bool x182_47 ∧ Aside0 (laws_FnCuts.j2 kq l1 t592 t593 t597 t598 t601 x182_47 = some true) ∧ Aside0 (kq ≤ kj17) ∧ Aside0 (Kd.R (Kd.int .i64) 3 wc w.heap.size (fun k_ => some k_ ≠ (v599 : Value).ownBlock ∧ some k_ ≠ (v603 : Value).ownBlock) (.slice Ao50 t592.length co50) t592) ∧ Aside0 (Kd.R (Kd.int .i64) 3 wc w.heap.size (fun k_ => some k_ ≠ ((.slice Ao50 t592.length co50) : Value).ownBlock ∧ some k_ ≠ (v603 : Value).ownBlock) v599 t597) ∧ Aside0 (Kd.R (Kd.int .i64) 3 wc w.heap.size (fun k_ => some k_ ≠ ((.slice Ao50 t592.length co50) : Value).ownBlock ∧ some k_ ≠ (v599 : Value).ownBlock) v603 t601) ∧ Aside0 (Below w.heap.size w wc))
       case first => as_aux_lemma =>
        have H := HC48.out
        clear HC48
        by_cases c53 : (t598 != t602) = true
        ·rw [if_pos c53] at H
         have c53b0 : (t598 != t602) = true := c53
         (try (have c53b1 : decide (t598 = t602) = false := by simpa using c53))
         (try (have c53b2 : (t598 == t602) = false := by simpa using c53))
         (try (have c53b3 : ¬ (t598 = t602) := by simpa using c53))
         clear c53
         (first | rw [c53b0] | (simp only [i64_w, i32_w]; rw [c53b0]) | skip)
         have H' := Aside0.mk H
         clear H
         go_wp2
         go_meet
         case rel => exact ⟨_, (true), qs, H', ⟨by have := HJ7.out; have := HJ17.out; first | omega | exact Nat.le_refl _⟩, ⟨by exact uR (Kd.R_mono HO596.out (fun _ hk => ⟨hk.1.2, hk.2⟩))⟩, ⟨by exact uR (Kd.R_mono HO600.out (fun _ hk => ⟨hk.1.2, hk.2⟩))⟩, ⟨by exact uR (Kd.R_mono HO604.out (fun _ hk => ⟨hk.1.2, hk.2⟩))⟩, ⟨qB HB⟩⟩
        ·rw [if_neg c53] at H
         have c53b0 : (t598 != t602) = false := by simpa using c53
         (try (have c53b1 : decide (t598 = t602) = true := by simpa using c53))
         (try (have c53b2 : (t598 == t602) = true := by simpa using c53))
         clear c53
         (first | rw [c53b0] | (simp only [i64_w, i32_w]; rw [c53b0]) | skip)
         replace H := Option.bind_eq_some_iff.mp H
         obtain ⟨t605, A540, H⟩ := H
         replace H : (laws_FnCuts.j2 kj17 l1 t592 t593 t597 t598 t601 (!t605)) = some true := H
         have A54 := Aside0.mk A540
         clear A540
         have H' := Aside0.mk H
         clear H
         obtain ⟨Ao55, co55, eo55⟩ := Kd.R_slice HO600.out
         subst eo55
         obtain ⟨Ao56, co56, eo56⟩ := Kd.R_slice HO604.out
         subst eo56
         go_wp2_with (first | (go_at_call 28; (with_reducible refine (laws_sameInts.calls kj17 _ _ t597 _ _ t601 t605 _ ?side1 ?side2 ?side3 ?side4 A54.out).mono ?_); (case side1 => exact uC (Kd.R_reads' HO600.out).2.2); (case side2 => exact (Kd.R_reads' HO600.out).2.1); (case side3 => exact uC (Kd.R_reads' HO604.out).2.2); (case side4 => exact (Kd.R_reads' HO604.out).2.1); rintro e w' ⟨rfl, ⟨nd, rfl⟩⟩))
         go_meet
         case rel => exact ⟨_, (!t605), qs, H', ⟨by have := HJ7.out; have := HJ17.out; first | omega | exact Nat.le_refl _⟩, ⟨by exact uR (Kd.R_mono HO596.out (fun _ hk => ⟨hk.1.2, hk.2⟩))⟩, ⟨by exact uR (Kd.R_mono HO600.out (fun _ hk => ⟨hk.1.2, hk.2⟩))⟩, ⟨by exact uR (Kd.R_mono HO604.out (fun _ hk => ⟨hk.1.2, hk.2⟩))⟩, ⟨qB HB⟩⟩
       case rest => as_aux_lemma =>
        clear HC48
        try clear c1
        try clear c2
        try clear p2
        try clear c3
        try clear c4
        try clear q4
        try clear c5
        try clear p6
        try clear c13
        try clear c13b0
        try clear c13b1
        try clear c13b2
        try clear c17
        try clear c19
        try clear c23
        try clear c24
        try clear c25
        try clear c26
        try clear c27
        try clear c28
        try clear c28b0
        try clear c28b1
        try clear c29
        try clear c29b0
        try clear c30
        try clear c30b0
        try clear c31
        try clear c31b0
        try clear c31b1
        try clear c32
        try clear c32b0
        try clear c32b1
        try clear c33
        try clear c33b0
        try clear c33b1
        try clear c34
        try clear c35
        try clear q43
        try clear c53
        try clear c53b0
        try clear c53b1
        try clear c53b2
        try clear p2
        try clear p6
        try clear q4
        try clear q43
        obtain ⟨kq, x182_47, rfl, HA, HJ47, HO_20, HO_23, HO_25, HB⟩ := hcut
        cases kq with
        | zero => exact absurd HA.out (by simp [laws_FnCuts.j2])
        | succ kj47 =>
         have H := HA.out
         clear HA
         simp only [laws_FnCuts.j2] at H
         by_cases c57 : x182_47 = true
         ·subst c57
          rw [if_pos rfl] at H
          exact absurd H (by simp)
         ·replace c57 := Bool.eq_false_iff.mpr c57
          subst c57
          rw [if_neg (show ¬ (false = true) by decide)] at H
          have HC58 := Aside0.mk H
          clear H
          go_upto_if 183 with (fail)
          go_cut [] (fun wc => ∃ (kq : Nat), Aside0 (laws_FnCuts.j3 kq l1 = some true) ∧ Aside0 (kq ≤ kj47) ∧ Aside0 (Below w.heap.size w wc))
          case first => as_aux_lemma =>
           have H := HC58.out
           clear HC58
           by_cases c59 : t598 = true
           ·subst c59
            rw [if_pos rfl] at H
            by_cases c60 : 0 ≤ t593
            ·rw [if_pos c60] at H
             have c60b0 : decide (0 ≤ t593) = true := decide_eq_true c60
             clear c60
             (first | rw [c60b0] | (simp only [i64_w, i32_w]; rw [c60b0]) | skip)
             by_cases c61 : t593 < (t592.length : Int)
             ·rw [if_pos c61] at H
              have c61b0 : decide (t593 < (t592.length : Int)) = true := decide_eq_true c61
              clear c61
              replace H := Option.bind_eq_some_iff.mp H
              obtain ⟨⟨t607, t608⟩, A620, H⟩ := H
              replace H : ((impl_RecoverRecords.f kj47 t597).bind fun bt611 => ((spec_RecoverRecords.f kj47 t601).bind fun bt616 => ((spec_RecoverRecords.f kj47 t592).bind fun bt621 => (if t608 = true then ((laws_sameInts.f kj47 t607 t592).bind fun t626 => (if t626 = true then (if bt611.2.2 = true then (if bt616.2.2 = true then (if bt621.2.2 = true then ((laws_pSameRecords.f kj47 bt611.1 bt616.1).bind fun t627 => (if t627 = true then (if (wrap64 (Int.tdiv t593 5)) < (bt621.1.length : Int) then (if 0 ≤ (wrap64 (Int.tdiv t593 5)) then (if (wrap64 (Int.tdiv t593 5)) ≤ (bt616.1.length : Int) then (if (wrap64 (Int.tdiv t593 5)) ≤ (bt621.1.length : Int) then ((laws_pSameRecords.f kj47 (bt616.1.take ((wrap64 (Int.tdiv t593 5)) : Int).toNat) (bt621.1.take ((wrap64 (Int.tdiv t593 5)) : Int).toNat)).bind fun t636 => (if t636 = true then (laws_FnCuts.j3 kj47 l1) else (some false))) else (none)) else (none)) else (none)) else (laws_FnCuts.j3 kj47 l1)) else (some false))) else (some false)) else (some false)) else (some false)) else (some false))) else (some false))))) = some true := H
              have A62 := Aside0.mk A620
              clear A620
              replace H := Option.bind_eq_some_iff.mp H
              obtain ⟨⟨t611, t612, t613⟩, A630, H⟩ := H
              replace H : ((spec_RecoverRecords.f kj47 t601).bind fun bt616 => ((spec_RecoverRecords.f kj47 t592).bind fun bt621 => (if t608 = true then ((laws_sameInts.f kj47 t607 t592).bind fun t626 => (if t626 = true then (if t613 = true then (if bt616.2.2 = true then (if bt621.2.2 = true then ((laws_pSameRecords.f kj47 t611 bt616.1).bind fun t627 => (if t627 = true then (if (wrap64 (Int.tdiv t593 5)) < (bt621.1.length : Int) then (if 0 ≤ (wrap64 (Int.tdiv t593 5)) then (if (wrap64 (Int.tdiv t593 5)) ≤ (bt616.1.length : Int) then (if (wrap64 (Int.tdiv t593 5)) ≤ (bt621.1.length : Int) then ((laws_pSameRecords.f kj47 (bt616.1.take ((wrap64 (Int.tdiv t593 5)) : Int).toNat) (bt621.1.take ((wrap64 (Int.tdiv t593 5)) : Int).toNat)).bind fun t636 => (if t636 = true then (laws_FnCuts.j3 kj47 l1) else (some false))) else (none)) else (none)) else (none)) else (laws_FnCuts.j3 kj47 l1)) else (some false))) else (some false)) else (some false)) else (some false)) else (some false))) else (some false)))) = some true := H
              have A63 := Aside0.mk A630
              clear A630
              replace H := Option.bind_eq_some_iff.mp H
              obtain ⟨⟨t616, t617, t618⟩, A640, H⟩ := H
              replace H : ((spec_RecoverRecords.f kj47 t592).bind fun bt621 => (if t608 = true then ((laws_sameInts.f kj47 t607 t592).bind fun t626 => (if t626 = true then (if t613 = true then (if t618 = true then (if bt621.2.2 = true then ((laws_pSameRecords.f kj47 t611 t616).bind fun t627 => (if t627 = true then (if (wrap64 (Int.tdiv t593 5)) < (bt621.1.length : Int) then (if 0 ≤ (wrap64 (Int.tdiv t593 5)) then (if (wrap64 (Int.tdiv t593 5)) ≤ (t616.length : Int) then (if (wrap64 (Int.tdiv t593 5)) ≤ (bt621.1.length : Int) then ((laws_pSameRecords.f kj47 (t616.take ((wrap64 (Int.tdiv t593 5)) : Int).toNat) (bt621.1.take ((wrap64 (Int.tdiv t593 5)) : Int).toNat)).bind fun t636 => (if t636 = true then (laws_FnCuts.j3 kj47 l1) else (some false))) else (none)) else (none)) else (none)) else (laws_FnCuts.j3 kj47 l1)) else (some false))) else (some false)) else (some false)) else (some false)) else (some false))) else (some false))) = some true := H
              have A64 := Aside0.mk A640
              clear A640
              replace H := Option.bind_eq_some_iff.mp H
              obtain ⟨⟨t621, t622, t623⟩, A650, H⟩ := H
              replace H : (if t608 = true then ((laws_sameInts.f kj47 t607 t592).bind fun t626 => (if t626 = true then (if t613 = true then (if t618 = true then (if t623 = true then ((laws_pSameRecords.f kj47 t611 t616).bind fun t627 => (if t627 = true then (if (wrap64 (Int.tdiv t593 5)) < (t621.length : Int) then (if 0 ≤ (wrap64 (Int.tdiv t593 5)) then (if (wrap64 (Int.tdiv t593 5)) ≤ (t616.length : Int) then (if (wrap64 (Int.tdiv t593 5)) ≤ (t621.length : Int) then ((laws_pSameRecords.f kj47 (t616.take ((wrap64 (Int.tdiv t593 5)) : Int).toNat) (t621.take ((wrap64 (Int.tdiv t593 5)) : Int).toNat)).bind fun t636 => (if t636 = true then (laws_FnCuts.j3 kj47 l1) else (some false))) else (none)) else (none)) else (none)) else (laws_FnCuts.j3 kj47 l1)) else (some false))) else (some false)) else (some false)) else (some false)) else (some false))) else (some false)) = some true := H
              have A65 := Aside0.mk A650
              clear A650
              by_cases c66 : t608 = true
              ·subst c66
               rw [if_pos rfl] at H
               replace H := Option.bind_eq_some_iff.mp H
               obtain ⟨t626, A670, H⟩ := H
               replace H : (if t626 = true then (if t613 = true then (if t618 = true then (if t623 = true then ((laws_pSameRecords.f kj47 t611 t616).bind fun t627 => (if t627 = true then (if (wrap64 (Int.tdiv t593 5)) < (t621.length : Int) then (if 0 ≤ (wrap64 (Int.tdiv t593 5)) then (if (wrap64 (Int.tdiv t593 5)) ≤ (t616.length : Int) then (if (wrap64 (Int.tdiv t593 5)) ≤ (t621.length : Int) then ((laws_pSameRecords.f kj47 (t616.take ((wrap64 (Int.tdiv t593 5)) : Int).toNat) (t621.take ((wrap64 (Int.tdiv t593 5)) : Int).toNat)).bind fun t636 => (if t636 = true then (laws_FnCuts.j3 kj47 l1) else (some false))) else (none)) else (none)) else (none)) else (laws_FnCuts.j3 kj47 l1)) else (some false))) else (some false)) else (some false)) else (some false)) else (some false)) = some true := H
               have A67 := Aside0.mk A670
               clear A670
               by_cases c68 : t626 = true
               ·subst c68
                rw [if_pos rfl] at H
                by_cases c69 : t613 = true
                ·subst c69
                 rw [if_pos rfl] at H
                 by_cases c70 : t618 = true
                 ·subst c70
                  rw [if_pos rfl] at H
                  by_cases c71 : t623 = true
                  ·subst c71
                   rw [if_pos rfl] at H
                   replace H := Option.bind_eq_some_iff.mp H
                   obtain ⟨t627, A720, H⟩ := H
                   replace H : (if t627 = true then (if (wrap64 (Int.tdiv t593 5)) < (t621.length : Int) then (if 0 ≤ (wrap64 (Int.tdiv t593 5)) then (if (wrap64 (Int.tdiv t593 5)) ≤ (t616.length : Int) then (if (wrap64 (Int.tdiv t593 5)) ≤ (t621.length : Int) then ((laws_pSameRecords.f kj47 (t616.take ((wrap64 (Int.tdiv t593 5)) : Int).toNat) (t621.take ((wrap64 (Int.tdiv t593 5)) : Int).toNat)).bind fun t636 => (if t636 = true then (laws_FnCuts.j3 kj47 l1) else (some false))) else (none)) else (none)) else (none)) else (laws_FnCuts.j3 kj47 l1)) else (some false)) = some true := H
                   have A72 := Aside0.mk A720
                   clear A720
                   by_cases c73 : t627 = true
                   ·subst c73
                    rw [if_pos rfl] at H
                    by_cases c74 : (wrap64 (Int.tdiv t593 5)) < (t621.length : Int)
                    ·rw [if_pos c74] at H
                     have c74b0 : decide ((wrap64 (Int.tdiv t593 5)) < (t621.length : Int)) = true := decide_eq_true c74
                     clear c74
                     obtain ⟨ji75, hji75⟩ : ∃ j_ : Int, (wrap64 (Int.tdiv t593 5)) = j_ := ⟨_, rfl⟩
                     replace H : (if 0 ≤ (ji75) then (if (ji75) ≤ (t616.length : Int) then (if (ji75) ≤ (t621.length : Int) then ((laws_pSameRecords.f kj47 (t616.take ((ji75) : Int).toNat) (t621.take ((ji75) : Int).toNat)).bind fun t636 => (if t636 = true then (laws_FnCuts.j3 kj47 l1) else (some false))) else (none)) else (none)) else (none)) = some true := by first | (rw [hji75] at H; exact H) | (simp only [hji75] at H ⊢; exact H)
                     (try rw [hji75] at c74b0)
                     (try rw [hji75] at A62)
                     (try rw [hji75] at A63)
                     (try rw [hji75] at A64)
                     (try rw [hji75] at A65)
                     (try rw [hji75] at A67)
                     (try rw [hji75] at A72)
                     have hji75w : (IntKind.i64.wrap (Int.tdiv t593 5)) = ji75 := (i64_w _).trans hji75
                     by_cases c76 : 0 ≤ (ji75)
                     ·rw [if_pos c76] at H
                      have c76b0 := eq_true c76
                      have c76b1 : decide (0 ≤ (ji75)) = true := decide_eq_true c76
                      clear c76
                      by_cases c77 : (ji75) ≤ (t616.length : Int)
                      ·rw [if_pos c77] at H
                       have c77b0 := eq_true c77
                       have c77b1 : decide ((ji75) ≤ (t616.length : Int)) = true := decide_eq_true c77
                       clear c77
                       obtain ⟨y628, hy628⟩ : ∃ y_ : List (S61), y_ = (t616.take ((ji75) : Int).toNat) := ⟨_, rfl⟩
                       replace H : (if (ji75) ≤ (t621.length : Int) then ((laws_pSameRecords.f kj47 y628 (t621.take ((ji75) : Int).toNat)).bind fun t636 => (if t636 = true then (laws_FnCuts.j3 kj47 l1) else (some false))) else (none)) = some true := by first | (rw [hy628]; with_reducible exact H) | (have H2_ := (Option.bind_some _ _).symm.trans H; rw [hy628]; with_reducible exact H2_) | (have H2_ := (Option.bind_some _ _).symm.trans H; with_reducible exact H2_) | with_reducible exact H | (rw [hy628]; exact H) | exact H
                       have Ny628 := Aside0.mk hy628
                       clear hy628
                       have c78b0 := eq_true (of_decide_eq_true qa : 0 ≤ (ji75))
                       by_cases c79 : (ji75) ≤ (t621.length : Int)
                       ·rw [if_pos c79] at H
                        have c79b0 := eq_true c79
                        have c79b1 : decide ((ji75) ≤ (t621.length : Int)) = true := decide_eq_true c79
                        clear c79
                        obtain ⟨y632, hy632⟩ : ∃ y_ : List (S61), y_ = (t621.take ((ji75) : Int).toNat) := ⟨_, rfl⟩
                        replace H : ((laws_pSameRecords.f kj47 y628 y632).bind fun t636 => (if t636 = true then (laws_FnCuts.j3 kj47 l1) else (some false))) = some true := by first | (rw [hy632]; with_reducible exact H) | (have H2_ := (Option.bind_some _ _).symm.trans H; rw [hy632]; with_reducible exact H2_) | (have H2_ := (Option.bind_some _ _).symm.trans H; with_reducible exact H2_) | with_reducible exact H | (rw [hy632]; exact H) | exact H
                        have Ny632 := Aside0.mk hy632
                        clear hy632
                        replace H := Option.bind_eq_some_iff.mp H
                        obtain ⟨t636, A800, H⟩ := H
                        replace H : (if t636 = true then (laws_FnCuts.j3 kj47 l1) else (some false)) = some true := H
                        have A80 := Aside0.mk A800
                        clear A800
                        by_cases c81 : t636 = true
                        ·subst c81
                         rw [if_pos rfl] at H
                         have H' := Aside0.mk H
                         clear H
                         have p606 : 0 ≤ (t593 : Int) := of_decide_eq_true qa
                         have q606 : t593 < (t592.length : Int) := of_decide_eq_true qa
                         obtain ⟨ad606, e606, hx606_0⟩ := Kd.at_int (Kd.R_reads' HO_20.out).2.2 t593 p606 q606
                         cases e606
                         replace p606 := eq_true p606
                         replace q606 := eq_true q606
                         obtain ⟨Ao82, co82, eo82⟩ := Kd.R_slice HO_23.out
                         subst eo82
                         try go_wp2_with (first | ((with_reducible refine gate_callee (f := 33) rfl ?_); refine goesL_ (some 191) rfl rfl Try.func33 (by kernel_rfl) rfl #[.slice Ao82 t597.length co82, .int .i64 t593, .int .i64 (rd t592 t593)] rfl qA ?_; (with_reducible refine (impl_ChangeNumber.calls kj47 _ _ t597 t593 (rd t592 t593) t607 true _ ?side1 ?side2 A62.out).mono ?_); (case side1 => exact uC (Kd.R_reads' HO_23.out).2.2); (case side2 => exact (Kd.R_reads' HO_23.out).2.1); rintro e w83 ⟨v609, rfl, ho0, hb⟩; refine ⟨_, rfl, ?_⟩; have n0_ := Aside0.mk (Kd.R_elder' (qR HO_20) (Kd.R_base ho0) hb); have n1_ := Aside0.mk (Kd.R_elder' (qR HO_23) (Kd.R_base ho0) hb); have n2_ := Aside0.mk (Kd.R_elder' (qR HO_25) (Kd.R_base ho0) hb); have n3_ := Aside0.mk (Kd.R_lower (Kd.R_new' (Kd.R_new' (Kd.R_new' ho0 (Kd.R_lt (qR HO_20))) (Kd.R_lt (qR HO_23))) (Kd.R_lt (qR HO_25))) (below_size (qB HB))); have n4_ := Aside0.mk (below_step (qB HB) hb); clear HO_20; clear HO_23; clear HO_25; clear HB; have HO_20 := n0_; have HO_23 := n1_; have HO_25 := n2_; have HO610 := n3_; have HB := n4_; clear n0_ n1_ n2_ n3_ n4_; (try clear hb); (try clear hb2); (try clear hk); (try clear hi); (try clear ho0)) | ((with_reducible refine gate_callee (f := 29) rfl ?_); refine goesL_ (some 196) rfl rfl Try.func29 (by kernel_rfl) rfl #[.slice Ao82 t597.length co82] rfl qA ?_; (with_reducible refine (impl_RecoverRecords.calls kj47 _ _ t597 t611 t612 true _ ?side1 ?side2 A63.out).mono ?_); (case side1 => exact uC (Kd.R_reads' HO_23.out).2.2); (case side2 => exact (Kd.R_reads' HO_23.out).2.1); rintro e w84 ⟨v614, rfl, ho0, hb⟩; refine ⟨_, rfl, ?_⟩; have n0_ := Aside0.mk (Kd.R_below (qR HO_20) hb); have n1_ := Aside0.mk (Kd.R_below (qR HO_23) hb); have n2_ := Aside0.mk (Kd.R_below (qR HO_25) hb); have n3_ := Aside0.mk (Kd.R_below (qR HO610) hb); have n4_ := Aside0.mk (Kd.R_lower ho0 (below_size (qB HB))); have n5_ := Aside0.mk (below_step (qB HB) hb); clear HO_20; clear HO_23; clear HO_25; clear HO610; clear HB; have HO_20 := n0_; have HO_23 := n1_; have HO_25 := n2_; have HO610 := n3_; have HO615 := n4_; have HB := n5_; clear n0_ n1_ n2_ n3_ n4_ n5_; (try clear hb); (try clear hb2); (try clear hk); (try clear hi); (try clear ho0); obtain ⟨Ao85, co85, eo85⟩ := Kd.R_slice HO_25.out; subst eo85) | ((with_reducible refine gate_callee (f := 30) rfl ?_); refine goesL_ (some 202) rfl rfl Try.func30 (by kernel_rfl) rfl #[.slice Ao85 t601.length co85] rfl qA ?_; (with_reducible refine (spec_RecoverRecords.calls kj47 _ _ t601 t616 t617 true _ ?side1 ?side2 A64.out).mono ?_); (case side1 => exact uC (Kd.R_reads' HO_25.out).2.2); (case side2 => exact (Kd.R_reads' HO_25.out).2.1); rintro e w86 ⟨v619, rfl, ho0, hb⟩; refine ⟨_, rfl, ?_⟩; have n0_ := Aside0.mk (Kd.R_below (qR HO_20) hb); have n1_ := Aside0.mk (Kd.R_below (qR HO_23) hb); have n2_ := Aside0.mk (Kd.R_below (qR HO_25) hb); have n3_ := Aside0.mk (Kd.R_below (qR HO610) hb); have n4_ := Aside0.mk (Kd.R_elder' (qR HO615) (Kd.R_base ho0) hb); have n5_ := Aside0.mk (Kd.R_lower (Kd.R_new' ho0 (Kd.R_lt (qR HO615))) (below_size (qB HB))); have n6_ := Aside0.mk (below_step (qB HB) hb); clear HO_20; clear HO_23; clear HO_25; clear HO610; clear HO615; clear HB; have HO_20 := n0_; have HO_23 := n1_; have HO_25 := n2_; have HO610 := n3_; have HO615 := n4_; have HO620 := n5_; have HB := n6_; clear n0_ n1_ n2_ n3_ n4_ n5_ n6_; (try clear hb); (try clear hb2); (try clear hk); (try clear hi); (try clear ho0)) | ((with_reducible refine gate_callee (f := 30) rfl ?_); refine goesL_ (some 208) rfl rfl Try.func30 (by kernel_rfl) rfl #[.slice (some ad606) t592.length co50] rfl qA ?_; (with_reducible refine (spec_RecoverRecords.calls kj47 _ _ t592 t621 t622 true _ ?side1 ?side2 A65.out).mono ?_); (case side1 => exact uC (Kd.R_reads' HO_20.out).2.2); (case side2 => exact (Kd.R_reads' HO_20.out).2.1); rintro e w87 ⟨v624, rfl, ho0, hb⟩; refine ⟨_, rfl, ?_⟩; have n0_ := Aside0.mk (Kd.R_below (qR HO_20) hb); have n1_ := Aside0.mk (Kd.R_below (qR HO_23) hb); have n2_ := Aside0.mk (Kd.R_below (qR HO_25) hb); have n3_ := Aside0.mk (Kd.R_below (qR HO610) hb); have n4_ := Aside0.mk (Kd.R_elder' (qR HO615) (Kd.R_base ho0) hb); have n5_ := Aside0.mk (Kd.R_elder' (qR HO620) (Kd.R_base ho0) hb); have n6_ := Aside0.mk (Kd.R_lower (Kd.R_new' (Kd.R_new' ho0 (Kd.R_lt (qR HO615))) (Kd.R_lt (qR HO620))) (below_size (qB HB))); have n7_ := Aside0.mk (below_step (qB HB) hb); clear HO_20; clear HO_23; clear HO_25; clear HO610; clear HO615; clear HO620; clear HB; have HO_20 := n0_; have HO_23 := n1_; have HO_25 := n2_; have HO610 := n3_; have HO615 := n4_; have HO620 := n5_; have HO625 := n6_; have HB := n7_; clear n0_ n1_ n2_ n3_ n4_ n5_ n6_ n7_; (try clear hb); (try clear hb2); (try clear hk); (try clear hi); (try clear ho0)))
                         have n0_ := Aside0.mk (Kd.R_drew HO_20.out)
                         have n1_ := Aside0.mk (Kd.R_drew HO_23.out)
                         have n2_ := Aside0.mk (Kd.R_drew HO_25.out)
                         have n3_ := Aside0.mk (Kd.R_drew HO610.out)
                         have n4_ := Aside0.mk (Kd.R_drew HO615.out)
                         have n5_ := Aside0.mk (Kd.R_drew HO620.out)
                         have n6_ := Aside0.mk (Kd.R_drew HO625.out)
                         have n7_ := Aside0.mk (below_drew1 HB.out)
                         clear HO_20
                         clear HO_23
                         clear HO_25
                         clear HO610
                         clear HO615
                         clear HO620
                         clear HO625
                         clear HB
                         have HO_20 := n0_
                         have HO_23 := n1_
                         have HO_25 := n2_
                         have HO610 := n3_
                         have HO615 := n4_
                         have HO620 := n5_
                         have HO625 := n6_
                         have HB := n7_
                         clear n0_ n1_ n2_ n3_ n4_ n5_ n6_ n7_
                         obtain ⟨Ao89, co89, eo89⟩ := Kd.R_slice HO610.out
                         (first | subst eo89 | (injection eo89 with f1_ f2_ f3_; have f4_ := f1_.symm; have f5_ := f3_.symm; clear f1_ f2_ f3_; subst f4_; subst f5_))
                         refine start_ (n := 45) (S := fun w' => True) (ds := []) (Array.replicate 45 false) (by kernel_rfl) rfl rfl trivial (fun hHeld => ?_); refine with_tabW laws_FnCuts.tab24 laws_FnCuts.bits24 (fun HT_ HW_ => ?_)
                         generalize w87.drew = w88 at HO_20 HO_23 HO_25 HO610 HO615 HO620 HO625 HB hHeld ⊢
                         refine pure_ (i := 0) (N := some 212) (v := ?_) (a' := ?_) (bq 45 1) rfl rfl (qn HT_) (fun _ _ _ h => h) (Or.inl ⟨by rfl, ?_⟩) ?_ ?_; rotate_left; focus (intro w'; go_simp; with_reducible rfl)
                         rotate_left; focus (simp only [Act.put, List.setIfInBounds_toArray, List.set_cons_zero, List.set_cons_succ, i64_w, i32_w]; rfl)
                         refine pure_ (i := 1) (N := some 213) (v := ?_) (a' := ?_) (bq 45 3) rfl rfl (qn HT_) (fun _ _ _ h => h) (Or.inl ⟨by rfl, ?_⟩) ?_ ?_; rotate_left; focus (intro w'; go_simp; with_reducible rfl)
                         rotate_left; focus (simp only [Act.put, List.setIfInBounds_toArray, List.set_cons_zero, List.set_cons_succ, i64_w, i32_w]; rfl)
                         refine pure_ (i := 2) (N := some 214) (v := ?_) (a' := ?_) (bq 45 7) rfl rfl (qn HT_) (fun _ _ _ h => h) (Or.inl ⟨by rfl, ?_⟩) ?_ ?_; rotate_left; focus (intro w'; go_simp; with_reducible rfl)
                         rotate_left; focus (simp only [Act.put, List.setIfInBounds_toArray, List.set_cons_zero, List.set_cons_succ, i64_w, i32_w]; rfl)
                         refine pure_ (i := 3) (N := some 215) (v := ?_) (a' := ?_) (bq 45 15) rfl rfl (qn HT_) (fun _ _ _ h => h) (Or.inl ⟨by rfl, ?_⟩) ?_ ?_; rotate_left; focus (intro w'; go_simp; with_reducible rfl)
                         rotate_left; focus (simp only [Act.put, List.setIfInBounds_toArray, List.set_cons_zero, List.set_cons_succ, i64_w, i32_w]; rfl)
                         refine pure_ (i := 4) (N := some 216) (v := ?_) (a' := ?_) (bq 45 31) rfl rfl (qn HT_) (fun _ _ _ h => h) (Or.inl ⟨by rfl, ?_⟩) ?_ ?_; rotate_left; focus (intro w'; go_simp; with_reducible rfl)
                         rotate_left; focus (simp only [Act.put, List.setIfInBounds_toArray, List.set_cons_zero, List.set_cons_succ, i64_w, i32_w]; rfl)
                         refine one_ (i := 5) (N := some 217) (bq 45 63) rfl rfl (qo HT_) (by decide) (fun K hK => ?_)
                         refine goes_ Try.func28 (by kernel_rfl) rfl #[.slice Ao89 t607.length co89, .slice (some ad606) t592.length co50] (by rfl) rfl rfl qA ?_
                         with_reducible refine (laws_sameInts.calls kj47 _ _ t607 _ _ t592 true _ ?side1 ?side2 ?side3 ?side4 A67.out).mono ?_
                         (case side1 => exact uC (Kd.R_reads' HO610.out).2.2)
                         (case side2 => exact (Kd.R_reads' HO610.out).2.1)
                         (case side3 => exact uC (Kd.R_reads' HO_20.out).2.2)
                         (case side4 => exact (Kd.R_reads' HO_20.out).2.1)
                         rintro e w' ⟨rfl, ⟨nd, rfl⟩⟩
                         refine ⟨_, rfl, ?_⟩
                         obtain ⟨Ao90, co90, eo90⟩ := Kd.R_slice HO615.out
                         (first | subst eo90 | (injection eo90 with f1_ f2_ f3_; have f4_ := f1_.symm; have f5_ := f3_.symm; clear f1_ f2_ f3_; subst f4_; subst f5_))
                         obtain ⟨Ao91, co91, eo91⟩ := Kd.R_slice HO620.out
                         (first | subst eo91 | (injection eo91 with f1_ f2_ f3_; have f4_ := f1_.symm; have f5_ := f3_.symm; clear f1_ f2_ f3_; subst f4_; subst f5_))
                         refine hK.out _ _ trivial (fun hHeld => ?_)
                         clear hK K
                         refine norm_ (a' := ?_) ?_ ?_
                         rotate_left
                         ·show Act.put _ (some 217) _ = _
                          simp only [Act.put, List.setIfInBounds_toArray, List.set_cons_zero, List.set_cons_succ, i64_w, i32_w]
                          rfl
                         refine pure_ (i := 6) (N := some 218) (v := ?_) (a' := ?_) (bq 45 127) rfl rfl (qn HT_) (fun _ _ _ h => h) (Or.inl ⟨by rfl, ?_⟩) ?_ ?_; rotate_left; focus (intro w'; go_simp; with_reducible rfl)
                         rotate_left; focus (simp only [Act.put, List.setIfInBounds_toArray, List.set_cons_zero, List.set_cons_succ, i64_w, i32_w]; rfl)
                         refine pure_ (i := 7) (N := some 219) (v := ?_) (a' := ?_) (bq 45 255) rfl rfl (qn HT_) (fun _ _ _ h => h) (Or.inl ⟨by rfl, ?_⟩) ?_ ?_; rotate_left; focus (intro w'; go_simp; with_reducible rfl)
                         rotate_left; focus (simp only [Act.put, List.setIfInBounds_toArray, List.set_cons_zero, List.set_cons_succ, i64_w, i32_w]; rfl)
                         refine pure_ (i := 8) (N := some 220) (v := ?_) (a' := ?_) (bq 45 511) rfl rfl (qn HT_) (fun _ _ _ h => h) (Or.inl ⟨by rfl, ?_⟩) ?_ ?_; rotate_left; focus (intro w'; go_simp; with_reducible rfl)
                         rotate_left; focus (simp only [Act.put, List.setIfInBounds_toArray, List.set_cons_zero, List.set_cons_succ, i64_w, i32_w]; rfl)
                         refine pure_ (i := 9) (N := some 221) (v := ?_) (a' := ?_) (bq 45 1023) rfl rfl (qn HT_) (fun _ _ _ h => h) (Or.inl ⟨by rfl, ?_⟩) ?_ ?_; rotate_left; focus (intro w'; go_simp; with_reducible rfl)
                         rotate_left; focus (simp only [Act.put, List.setIfInBounds_toArray, List.set_cons_zero, List.set_cons_succ, i64_w, i32_w]; rfl)
                         refine pure_ (i := 10) (N := some 222) (v := ?_) (a' := ?_) (bq 45 2047) rfl rfl (qn HT_) (fun _ _ _ h => h) (Or.inl ⟨by rfl, ?_⟩) ?_ ?_; rotate_left; focus (intro w'; go_simp; with_reducible rfl)
                         rotate_left; focus (simp only [Act.put, List.setIfInBounds_toArray, List.set_cons_zero, List.set_cons_succ, i64_w, i32_w]; rfl)
                         refine pure_ (i := 11) (N := some 223) (v := ?_) (a' := ?_) (bq 45 4095) rfl rfl (qn HT_) (fun _ _ _ h => h) (Or.inl ⟨by rfl, ?_⟩) ?_ ?_; rotate_left; focus (intro w'; go_simp; with_reducible rfl)
                         rotate_left; focus (simp only [Act.put, List.setIfInBounds_toArray, List.set_cons_zero, List.set_cons_succ, i64_w, i32_w]; rfl)
                         refine pure_ (i := 12) (N := some 224) (v := ?_) (a' := ?_) (bq 45 8191) rfl rfl (qn HT_) (fun _ _ _ h => h) (Or.inl ⟨by rfl, ?_⟩) ?_ ?_; rotate_left; focus (intro w'; go_simp; with_reducible rfl)
                         rotate_left; focus (simp only [Act.put, List.setIfInBounds_toArray, List.set_cons_zero, List.set_cons_succ, i64_w, i32_w]; rfl)
                         refine pure_ (i := 13) (N := some 225) (v := ?_) (a' := ?_) (bq 45 16383) rfl rfl (qn HT_) (fun _ _ _ h => h) (Or.inl ⟨by rfl, ?_⟩) ?_ ?_; rotate_left; focus (intro w'; go_simp; with_reducible rfl)
                         rotate_left; focus (simp only [Act.put, List.setIfInBounds_toArray, List.set_cons_zero, List.set_cons_succ, i64_w, i32_w]; rfl)
                         refine pure_ (i := 14) (N := some 226) (v := ?_) (a' := ?_) (bq 45 32767) rfl rfl (qn HT_) (fun _ _ _ h => h) (Or.inl ⟨by rfl, ?_⟩) ?_ ?_; rotate_left; focus (intro w'; go_simp; with_reducible rfl)
                         rotate_left; focus (simp only [Act.put, List.setIfInBounds_toArray, List.set_cons_zero, List.set_cons_succ, i64_w, i32_w]; rfl)
                         refine pure_ (i := 15) (N := some 227) (v := ?_) (a' := ?_) (bq 45 65535) rfl rfl (qn HT_) (fun _ _ _ h => h) (Or.inl ⟨by rfl, ?_⟩) ?_ ?_; rotate_left; focus (intro w'; go_simp; with_reducible rfl)
                         rotate_left; focus (simp only [Act.put, List.setIfInBounds_toArray, List.set_cons_zero, List.set_cons_succ, i64_w, i32_w]; rfl)
                         refine pure_ (i := 16) (N := some 228) (v := ?_) (a' := ?_) (bq 45 131071) rfl rfl (qn HT_) (fun _ _ _ h => h) (Or.inl ⟨by rfl, ?_⟩) ?_ ?_; rotate_left; focus (intro w'; go_simp; with_reducible rfl)
                         rotate_left; focus (simp only [Act.put, List.setIfInBounds_toArray, List.set_cons_zero, List.set_cons_succ, i64_w, i32_w]; rfl)
                         refine pure_ (i := 17) (N := some 229) (v := ?_) (a' := ?_) (bq 45 262143) rfl rfl (qn HT_) (fun _ _ _ h => h) (Or.inl ⟨by rfl, ?_⟩) ?_ ?_; rotate_left; focus (intro w'; go_simp; with_reducible rfl)
                         rotate_left; focus (simp only [Act.put, List.setIfInBounds_toArray, List.set_cons_zero, List.set_cons_succ, i64_w, i32_w]; rfl)
                         refine pure_ (i := 18) (N := some 230) (v := ?_) (a' := ?_) (bq 45 524287) rfl rfl (qn HT_) (fun _ _ _ h => h) (Or.inl ⟨by rfl, ?_⟩) ?_ ?_; rotate_left; focus (intro w'; go_simp; with_reducible rfl)
                         rotate_left; focus (simp only [Act.put, List.setIfInBounds_toArray, List.set_cons_zero, List.set_cons_succ, i64_w, i32_w]; rfl)
                         refine pure_ (i := 19) (N := some 231) (v := ?_) (a' := ?_) (bq 45 1048575) rfl rfl (qn HT_) (fun _ _ _ h => h) (Or.inl ⟨by rfl, ?_⟩) ?_ ?_; rotate_left; focus (intro w'; go_simp; with_reducible rfl)
                         rotate_left; focus (simp only [Act.put, List.setIfInBounds_toArray, List.set_cons_zero, List.set_cons_succ, i64_w, i32_w]; rfl)
                         refine pure_ (i := 20) (N := some 232) (v := ?_) (a' := ?_) (bq 45 2097151) rfl rfl (qn HT_) (fun _ _ _ h => h) (Or.inl ⟨by rfl, ?_⟩) ?_ ?_; rotate_left; focus (intro w'; go_simp; with_reducible rfl)
                         rotate_left; focus (simp only [Act.put, List.setIfInBounds_toArray, List.set_cons_zero, List.set_cons_succ, i64_w, i32_w]; rfl)
                         refine pure_ (i := 21) (N := some 233) (v := ?_) (a' := ?_) (bq 45 4194303) rfl rfl (qn HT_) (fun _ _ _ h => h) (Or.inl ⟨by rfl, ?_⟩) ?_ ?_; rotate_left; focus (intro w'; go_simp; with_reducible rfl)
                         rotate_left; focus (simp only [Act.put, List.setIfInBounds_toArray, List.set_cons_zero, List.set_cons_succ, i64_w, i32_w]; rfl)
                         refine pure_ (i := 22) (N := some 234) (v := ?_) (a' := ?_) (bq 45 8388607) rfl rfl (qn HT_) (fun _ _ _ h => h) (Or.inl ⟨by rfl, ?_⟩) ?_ ?_; rotate_left; focus (intro w'; go_simp; with_reducible rfl)
                         rotate_left; focus (simp only [Act.put, List.setIfInBounds_toArray, List.set_cons_zero, List.set_cons_succ, i64_w, i32_w]; rfl)
                         refine one_ (i := 23) (N := some 235) (bq 45 16777215) rfl rfl (qo HT_) (by decide) (fun K hK => ?_)
                         refine goes_ Try.func31 (by kernel_rfl) rfl #[.slice Ao90 t611.length co90, .slice Ao91 t616.length co91] (by rfl) rfl rfl qA ?_
                         with_reducible refine (laws_pSameRecords.calls kj47 _ _ t611 _ _ t616 true _ ?side1 ?side2 ?side3 ?side4 A72.out).mono ?_
                         (case side1 => exact uC (Kd.R_reads' HO615.out).2.2)
                         (case side2 => exact (Kd.R_reads' HO615.out).2.1)
                         (case side3 => exact uC (Kd.R_reads' HO620.out).2.2)
                         (case side4 => exact (Kd.R_reads' HO620.out).2.1)
                         rintro e w' ⟨rfl, ⟨nd, rfl⟩⟩
                         refine ⟨_, rfl, ?_⟩
                         obtain ⟨Ao92, co92, eo92⟩ := Kd.R_slice HO625.out
                         (first | subst eo92 | (injection eo92 with f1_ f2_ f3_; have f4_ := f1_.symm; have f5_ := f3_.symm; clear f1_ f2_ f3_; subst f4_; subst f5_))
                         have q93 : ((ji75) : Int) ≤ ((t616.length : Int) : Int) := of_decide_eq_true qa
                         obtain ⟨i093, hi093, _, hsz93, _⟩ := info_parts info61
                         have hroom93 : t616.length ≤ co91 := (Kd.R_reads' HO620.out).2.1
                         have hC93 : Kd.C k61 _ Ao91 t616.length t616 := (Kd.R_reads' HO620.out).2.2
                         have hcut93 := cut_to (P := Try.prog) 49 61 .i64 Try.underlying49 hi093 Ao91 t616.length co91 (ji75) (of_decide_eq_true qa) q93 hroom93
                         have hr93 := Kd.C_take (m := ((ji75) : Int).toNat) hC93 (by omega)
                         have hy93 : y628.length = ((ji75) : Int).toNat := (by rw [Ny628.out, List.length_take]; omega)
                         rw [← Ny628.out] at hr93
                         rw [← hy93] at hcut93
                         have HR631 := Aside0.mk hr93
                         have HC631 := Aside0.mk (show y628.length ≤ co91 from by omega)
                         clear hr93 hC93 hroom93 hi093 hsz93
                         have KY93 := Aside0.mk hy93
                         clear hy93
                         have KL93 := Aside0.mk (show ((ji75) : Int).toNat ≤ t616.length from by omega)
                         replace q93 := eq_true q93
                         have q94 : ((ji75) : Int) ≤ ((t621.length : Int) : Int) := of_decide_eq_true qa
                         obtain ⟨i094, hi094, _, hsz94, _⟩ := info_parts info61
                         have hroom94 : t621.length ≤ co92 := (Kd.R_reads' HO625.out).2.1
                         have hC94 : Kd.C k61 _ Ao92 t621.length t621 := (Kd.R_reads' HO625.out).2.2
                         have hcut94 := cut_to (P := Try.prog) 49 61 .i64 Try.underlying49 hi094 Ao92 t621.length co92 (ji75) (of_decide_eq_true qa) q94 hroom94
                         have hr94 := Kd.C_take (m := ((ji75) : Int).toNat) hC94 (by omega)
                         have hy94 : y632.length = ((ji75) : Int).toNat := (by rw [Ny632.out, List.length_take]; omega)
                         rw [← Ny632.out] at hr94
                         rw [← hy94] at hcut94
                         have HR635 := Aside0.mk hr94
                         have HC635 := Aside0.mk (show y632.length ≤ co92 from by omega)
                         clear hr94 hC94 hroom94 hi094 hsz94
                         have KY94 := Aside0.mk hy94
                         clear hy94
                         have KL94 := Aside0.mk (show ((ji75) : Int).toNat ≤ t621.length from by omega)
                         replace q94 := eq_true q94
                         refine hK.out _ _ trivial (fun hHeld => ?_)
                         clear hK K
                         refine norm_ (a' := ?_) ?_ ?_
                         rotate_left
                         ·show Act.put _ (some 235) _ = _
                          simp only [Act.put, List.setIfInBounds_toArray, List.set_cons_zero, List.set_cons_succ, i64_w, i32_w]
                          rfl
                         refine pure_ (i := 24) (N := some 236) (v := ?_) (a' := ?_) (bq 45 33554431) rfl rfl (qn HT_) (fun _ _ _ h => h) (Or.inl ⟨by rfl, ?_⟩) ?_ ?_; rotate_left; focus (intro w'; go_simp; with_reducible rfl)
                         rotate_left; focus (simp only [Act.put, List.setIfInBounds_toArray, List.set_cons_zero, List.set_cons_succ, i64_w, i32_w]; rfl)
                         refine pure_ (i := 25) (N := some 237) (v := ?_) (a' := ?_) (bq 45 67108863) rfl rfl (qn HT_) (fun _ _ _ h => h) (Or.inl ⟨by rfl, ?_⟩) ?_ ?_; rotate_left; focus (intro w'; go_simp; with_reducible rfl)
                         rotate_left; focus (simp only [Act.put, List.setIfInBounds_toArray, List.set_cons_zero, List.set_cons_succ, i64_w, i32_w]; rfl)
                         refine pure_ (i := 26) (N := some 238) (v := ?_) (a' := ?_) (bq 45 134217727) rfl rfl (qn HT_) (fun _ _ _ h => h) (Or.inl ⟨by rfl, ?_⟩) ?_ ?_; rotate_left; focus (intro w'; go_simp; with_reducible rfl)
                         rotate_left; focus (simp only [Act.put, List.setIfInBounds_toArray, List.set_cons_zero, List.set_cons_succ, i64_w, i32_w]; rfl)
                         refine pure_ (i := 27) (N := some 239) (v := ?_) (a' := ?_) (bq 45 268435455) rfl rfl (qn HT_) (fun _ _ _ h => h) (Or.inl ⟨by rfl, ?_⟩) ?_ ?_; rotate_left; focus (intro w'; go_simp; with_reducible rfl)
                         rotate_left; focus (simp only [Act.put, List.setIfInBounds_toArray, List.set_cons_zero, List.set_cons_succ, i64_w, i32_w]; rfl)
                         refine pure_ (i := 28) (N := some 240) (v := ?_) (a' := ?_) (bq 45 536870911) rfl rfl (qn HT_) (fun _ _ _ h => h) (Or.inl ⟨by rfl, ?_⟩) ?_ ?_; rotate_left; focus (intro w'; go_simp; with_reducible rfl)
                         rotate_left; focus (simp only [Act.put, List.setIfInBounds_toArray, List.set_cons_zero, List.set_cons_succ, i64_w, i32_w]; rfl)
                         refine pure_ (i := 29) (N := some 241) (v := ?_) (a' := ?_) (bq 45 1073741823) rfl rfl (qn HT_) (fun _ _ _ h => h) (Or.inl ⟨by rfl, ?_⟩) ?_ ?_; rotate_left; focus (intro w'; go_simp; with_reducible rfl)
                         rotate_left; focus (simp only [Act.put, List.setIfInBounds_toArray, List.set_cons_zero, List.set_cons_succ, i64_w, i32_w]; rfl)
                         refine pure_ (i := 30) (N := some 242) (v := ?_) (a' := ?_) (bq 45 2147483647) rfl rfl (qn HT_) (fun _ _ _ h => h) (Or.inl ⟨by rfl, ?_⟩) ?_ ?_; rotate_left; focus (intro w'; go_simp; with_reducible rfl)
                         rotate_left; focus (simp only [Act.put, List.setIfInBounds_toArray, List.set_cons_zero, List.set_cons_succ, i64_w, i32_w]; rfl)
                         refine pure_ (i := 31) (N := some 243) (v := ?_) (a' := ?_) (bq 45 4294967295) rfl rfl (qn HT_) (fun _ _ _ h => h) (Or.inl ⟨by rfl, ?_⟩) ?_ ?_; rotate_left; focus (intro w'; go_simp; with_reducible rfl)
                         rotate_left; focus (simp only [Act.put, List.setIfInBounds_toArray, List.set_cons_zero, List.set_cons_succ, i64_w, i32_w]; rfl)
                         refine pure_ (i := 32) (N := some 244) (v := ?_) (a' := ?_) (bq 45 8589934591) rfl rfl (qn HT_) (fun _ _ _ h => h) (Or.inl ⟨by rfl, ?_⟩) ?_ ?_; rotate_left; focus (intro w'; go_simp; with_reducible rfl)
                         rotate_left; focus (simp only [Act.put, List.setIfInBounds_toArray, List.set_cons_zero, List.set_cons_succ, i64_w, i32_w]; rfl)
                         refine pure_ (i := 33) (N := some 245) (v := ?_) (a' := ?_) (bq 45 17179869183) rfl rfl (qn HT_) (fun _ _ _ h => h) (Or.inl ⟨by rfl, ?_⟩) ?_ ?_; rotate_left; focus (intro w'; go_simp; with_reducible rfl)
                         rotate_left; focus (simp only [Act.put, List.setIfInBounds_toArray, List.set_cons_zero, List.set_cons_succ, i64_w, i32_w]; rfl)
                         refine pure_ (i := 34) (N := some 246) (v := ?_) (a' := ?_) (bq 45 34359738367) rfl rfl (qn HT_) (fun _ _ _ h => h) (Or.inl ⟨by rfl, ?_⟩) ?_ ?_; rotate_left; focus (intro w'; go_simp; with_reducible rfl)
                         rotate_left; focus (simp only [Act.put, List.setIfInBounds_toArray, List.set_cons_zero, List.set_cons_succ, i64_w, i32_w]; rfl)
                         refine pure_ (i := 35) (N := some 247) (v := ?_) (a' := ?_) (bq 45 68719476735) rfl rfl (qn HT_) (fun _ _ _ h => h) (Or.inl ⟨by rfl, ?_⟩) ?_ ?_; rotate_left; focus (intro w'; go_simp; with_reducible rfl)
                         rotate_left; focus (simp only [Act.put, List.setIfInBounds_toArray, List.set_cons_zero, List.set_cons_succ, i64_w, i32_w]; rfl)
                         refine pure_ (i := 36) (N := some 248) (v := ?_) (a' := ?_) (bq 45 137438953471) rfl rfl (qn HT_) (fun _ _ _ h => h) (Or.inl ⟨by rfl, ?_⟩) ?_ ?_; rotate_left; focus (intro w'; go_simp; with_reducible rfl)
                         rotate_left; focus (simp only [Act.put, List.setIfInBounds_toArray, List.set_cons_zero, List.set_cons_succ, i64_w, i32_w]; rfl)
                         refine pure_ (i := 37) (N := some 249) (v := ?_) (a' := ?_) (bq 45 274877906943) rfl rfl (qn HT_) (fun _ _ _ h => h) (Or.inl ⟨by rfl, ?_⟩) ?_ ?_; rotate_left; focus (intro w'; go_simp; with_reducible rfl)
                         rotate_left; focus (simp only [Act.put, List.setIfInBounds_toArray, List.set_cons_zero, List.set_cons_succ, i64_w, i32_w]; rfl)
                         refine pure_ (i := 38) (N := some 250) (v := ?_) (a' := ?_) (bq 45 549755813887) rfl rfl (qn HT_) (fun _ _ _ h => h) (Or.inl ⟨by rfl, ?_⟩) ?_ ?_; rotate_left; focus (intro w'; go_simp; with_reducible rfl)
                         rotate_left; focus (simp only [Act.put, List.setIfInBounds_toArray, List.set_cons_zero, List.set_cons_succ, i64_w, i32_w]; rfl)
                         refine pure_ (i := 39) (N := some 251) (v := ?_) (a' := ?_) (bq 45 1099511627775) rfl rfl (qn HT_) (fun _ _ _ h => h) (Or.inl ⟨by rfl, ?_⟩) ?_ ?_; rotate_left; focus (intro w'; go_simp; with_reducible rfl)
                         rotate_left; focus (simp only [Act.put, List.setIfInBounds_toArray, List.set_cons_zero, List.set_cons_succ, i64_w, i32_w]; rfl)
                         refine pure_ (i := 40) (N := some 252) (v := ?_) (a' := ?_) (bq 45 2199023255551) rfl rfl (qn HT_) (fun _ _ _ h => h) (Or.inl ⟨by rfl, ?_⟩) ?_ ?_; rotate_left; focus (intro w'; go_simp; with_reducible rfl)
                         rotate_left; focus (simp only [Act.put, List.setIfInBounds_toArray, List.set_cons_zero, List.set_cons_succ, i64_w, i32_w]; rfl)
                         refine one_ (i := 41) (N := some 253) (bq 45 4398046511103) rfl rfl (qo HT_) (by decide) (fun K hK => ?_)
                         refine goes_ Try.func31 (by kernel_rfl) rfl #[.slice Ao91 y628.length co91, .slice Ao92 y632.length co92] (by rfl) rfl rfl qA ?_
                         with_reducible refine (laws_pSameRecords.calls kj47 _ _ y628 _ _ y632 true _ ?side1 ?side2 ?side3 ?side4 A80.out).mono ?_
                         (case side1 => repeat (first | exact (by repeat (first | (with_reducible exact HR631.out) | (with_reducible refine Kd.C_alloc ?_ _) | (with_reducible refine Kd.C_drewN ?_ _) | (with_reducible refine Kd.C_drew ?_) | exact HR631.out)) | (with_reducible refine Kd.C_alloc ?_ _) | (with_reducible refine Kd.C_drewN ?_ _) | (with_reducible refine Kd.C_drew ?_)))
                         (case side2 => exact HC631.out)
                         (case side3 => repeat (first | exact (by repeat (first | (with_reducible exact HR635.out) | (with_reducible refine Kd.C_alloc ?_ _) | (with_reducible refine Kd.C_drewN ?_ _) | (with_reducible refine Kd.C_drew ?_) | exact HR635.out)) | (with_reducible refine Kd.C_alloc ?_ _) | (with_reducible refine Kd.C_drewN ?_ _) | (with_reducible refine Kd.C_drew ?_)))
                         (case side4 => exact HC635.out)
                         rintro e w' ⟨rfl, ⟨nd, rfl⟩⟩
                         refine ⟨_, rfl, ?_⟩
                         refine hK.out _ _ trivial (fun hHeld => ?_)
                         clear hK K
                         refine norm_ (a' := ?_) ?_ ?_
                         rotate_left
                         ·show Act.put _ (some 253) _ = _
                          simp only [Act.put, List.setIfInBounds_toArray, List.set_cons_zero, List.set_cons_succ, i64_w, i32_w]
                          rfl
                         refine pure_ (i := 42) (N := some 254) (v := ?_) (a' := ?_) (bq 45 8796093022207) rfl rfl (qn HT_) (fun _ _ _ h => h) (Or.inl ⟨by rfl, ?_⟩) ?_ ?_; rotate_left; focus (intro w'; go_simp; with_reducible rfl)
                         rotate_left; focus (simp only [Act.put, List.setIfInBounds_toArray, List.set_cons_zero, List.set_cons_succ, i64_w, i32_w]; rfl)
                         refine pure_ (i := 43) (N := some 255) (v := ?_) (a' := ?_) (bq 45 17592186044415) rfl rfl (qn HT_) (fun _ _ _ h => h) (Or.inl ⟨by rfl, ?_⟩) ?_ ?_; rotate_left; focus (intro w'; go_simp; with_reducible rfl)
                         rotate_left; focus (simp only [Act.put, List.setIfInBounds_toArray, List.set_cons_zero, List.set_cons_succ, i64_w, i32_w]; rfl)
                         refine pure_ (i := 44) (N := some 256) (v := ?_) (a' := ?_) (bq 45 35184372088831) rfl rfl (qn HT_) (fun _ _ _ h => h) (Or.inl ⟨by rfl, ?_⟩) ?_ ?_; rotate_left; focus (intro w'; go_simp; with_reducible rfl)
                         rotate_left; focus (simp only [Act.put, List.setIfInBounds_toArray, List.set_cons_zero, List.set_cons_succ, i64_w, i32_w]; rfl)
                         refine done_ (done_of HT_.out (by kernel_rfl)) ?_
                         try go_wp2
                         go_meet
                         case rel => exact ⟨_, H', ⟨by have := HJ7.out; have := HJ17.out; have := HJ47.out; first | omega | exact Nat.le_refl _⟩, ⟨qB HB⟩⟩
                        ·replace c81 := Bool.eq_false_iff.mpr c81
                         subst c81
                         rw [if_neg (show ¬ (false = true) by decide)] at H
                         exact absurd H (by simp)
                       ·rw [if_neg c79] at H
                        exact absurd H (by simp)
                      ·rw [if_neg c77] at H
                       exact absurd H (by simp)
                     ·rw [if_neg c76] at H
                      exact absurd H (by simp)
                    ·rw [if_neg c74] at H
                     have c74b0 : decide ((wrap64 (Int.tdiv t593 5)) < (t621.length : Int)) = false := decide_eq_false c74
                     clear c74
                     have H' := Aside0.mk H
                     clear H
                     have p606 : 0 ≤ (t593 : Int) := of_decide_eq_true qa
                     have q606 : t593 < (t592.length : Int) := of_decide_eq_true qa
                     obtain ⟨ad606, e606, hx606_0⟩ := Kd.at_int (Kd.R_reads' HO_20.out).2.2 t593 p606 q606
                     cases e606
                     replace p606 := eq_true p606
                     replace q606 := eq_true q606
                     obtain ⟨Ao95, co95, eo95⟩ := Kd.R_slice HO_23.out
                     subst eo95
                     try go_wp2_with (first | ((with_reducible refine gate_callee (f := 33) rfl ?_); refine goesL_ (some 191) rfl rfl Try.func33 (by kernel_rfl) rfl #[.slice Ao95 t597.length co95, .int .i64 t593, .int .i64 (rd t592 t593)] rfl qA ?_; (with_reducible refine (impl_ChangeNumber.calls kj47 _ _ t597 t593 (rd t592 t593) t607 true _ ?side1 ?side2 A62.out).mono ?_); (case side1 => exact uC (Kd.R_reads' HO_23.out).2.2); (case side2 => exact (Kd.R_reads' HO_23.out).2.1); rintro e w96 ⟨v609, rfl, ho0, hb⟩; refine ⟨_, rfl, ?_⟩; have n0_ := Aside0.mk (Kd.R_elder' (qR HO_20) (Kd.R_base ho0) hb); have n1_ := Aside0.mk (Kd.R_elder' (qR HO_23) (Kd.R_base ho0) hb); have n2_ := Aside0.mk (Kd.R_elder' (qR HO_25) (Kd.R_base ho0) hb); have n3_ := Aside0.mk (Kd.R_lower (Kd.R_new' (Kd.R_new' (Kd.R_new' ho0 (Kd.R_lt (qR HO_20))) (Kd.R_lt (qR HO_23))) (Kd.R_lt (qR HO_25))) (below_size (qB HB))); have n4_ := Aside0.mk (below_step (qB HB) hb); clear HO_20; clear HO_23; clear HO_25; clear HB; have HO_20 := n0_; have HO_23 := n1_; have HO_25 := n2_; have HO610 := n3_; have HB := n4_; clear n0_ n1_ n2_ n3_ n4_; (try clear hb); (try clear hb2); (try clear hk); (try clear hi); (try clear ho0)) | ((with_reducible refine gate_callee (f := 29) rfl ?_); refine goesL_ (some 196) rfl rfl Try.func29 (by kernel_rfl) rfl #[.slice Ao95 t597.length co95] rfl qA ?_; (with_reducible refine (impl_RecoverRecords.calls kj47 _ _ t597 t611 t612 true _ ?side1 ?side2 A63.out).mono ?_); (case side1 => exact uC (Kd.R_reads' HO_23.out).2.2); (case side2 => exact (Kd.R_reads' HO_23.out).2.1); rintro e w97 ⟨v614, rfl, ho0, hb⟩; refine ⟨_, rfl, ?_⟩; have n0_ := Aside0.mk (Kd.R_below (qR HO_20) hb); have n1_ := Aside0.mk (Kd.R_below (qR HO_23) hb); have n2_ := Aside0.mk (Kd.R_below (qR HO_25) hb); have n3_ := Aside0.mk (Kd.R_below (qR HO610) hb); have n4_ := Aside0.mk (Kd.R_lower ho0 (below_size (qB HB))); have n5_ := Aside0.mk (below_step (qB HB) hb); clear HO_20; clear HO_23; clear HO_25; clear HO610; clear HB; have HO_20 := n0_; have HO_23 := n1_; have HO_25 := n2_; have HO610 := n3_; have HO615 := n4_; have HB := n5_; clear n0_ n1_ n2_ n3_ n4_ n5_; (try clear hb); (try clear hb2); (try clear hk); (try clear hi); (try clear ho0); obtain ⟨Ao98, co98, eo98⟩ := Kd.R_slice HO_25.out; subst eo98) | ((with_reducible refine gate_callee (f := 30) rfl ?_); refine goesL_ (some 202) rfl rfl Try.func30 (by kernel_rfl) rfl #[.slice Ao98 t601.length co98] rfl qA ?_; (with_reducible refine (spec_RecoverRecords.calls kj47 _ _ t601 t616 t617 true _ ?side1 ?side2 A64.out).mono ?_); (case side1 => exact uC (Kd.R_reads' HO_25.out).2.2); (case side2 => exact (Kd.R_reads' HO_25.out).2.1); rintro e w99 ⟨v619, rfl, ho0, hb⟩; refine ⟨_, rfl, ?_⟩; have n0_ := Aside0.mk (Kd.R_below (qR HO_20) hb); have n1_ := Aside0.mk (Kd.R_below (qR HO_23) hb); have n2_ := Aside0.mk (Kd.R_below (qR HO_25) hb); have n3_ := Aside0.mk (Kd.R_below (qR HO610) hb); have n4_ := Aside0.mk (Kd.R_elder' (qR HO615) (Kd.R_base ho0) hb); have n5_ := Aside0.mk (Kd.R_lower (Kd.R_new' ho0 (Kd.R_lt (qR HO615))) (below_size (qB HB))); have n6_ := Aside0.mk (below_step (qB HB) hb); clear HO_20; clear HO_23; clear HO_25; clear HO610; clear HO615; clear HB; have HO_20 := n0_; have HO_23 := n1_; have HO_25 := n2_; have HO610 := n3_; have HO615 := n4_; have HO620 := n5_; have HB := n6_; clear n0_ n1_ n2_ n3_ n4_ n5_ n6_; (try clear hb); (try clear hb2); (try clear hk); (try clear hi); (try clear ho0)) | ((with_reducible refine gate_callee (f := 30) rfl ?_); refine goesL_ (some 208) rfl rfl Try.func30 (by kernel_rfl) rfl #[.slice (some ad606) t592.length co50] rfl qA ?_; (with_reducible refine (spec_RecoverRecords.calls kj47 _ _ t592 t621 t622 true _ ?side1 ?side2 A65.out).mono ?_); (case side1 => exact uC (Kd.R_reads' HO_20.out).2.2); (case side2 => exact (Kd.R_reads' HO_20.out).2.1); rintro e w100 ⟨v624, rfl, ho0, hb⟩; refine ⟨_, rfl, ?_⟩; have n0_ := Aside0.mk (Kd.R_below (qR HO_20) hb); have n1_ := Aside0.mk (Kd.R_below (qR HO_23) hb); have n2_ := Aside0.mk (Kd.R_below (qR HO_25) hb); have n3_ := Aside0.mk (Kd.R_below (qR HO610) hb); have n4_ := Aside0.mk (Kd.R_elder' (qR HO615) (Kd.R_base ho0) hb); have n5_ := Aside0.mk (Kd.R_elder' (qR HO620) (Kd.R_base ho0) hb); have n6_ := Aside0.mk (Kd.R_lower (Kd.R_new' (Kd.R_new' ho0 (Kd.R_lt (qR HO615))) (Kd.R_lt (qR HO620))) (below_size (qB HB))); have n7_ := Aside0.mk (below_step (qB HB) hb); clear HO_20; clear HO_23; clear HO_25; clear HO610; clear HO615; clear HO620; clear HB; have HO_20 := n0_; have HO_23 := n1_; have HO_25 := n2_; have HO610 := n3_; have HO615 := n4_; have HO620 := n5_; have HO625 := n6_; have HB := n7_; clear n0_ n1_ n2_ n3_ n4_ n5_ n6_ n7_; (try clear hb); (try clear hb2); (try clear hk); (try clear hi); (try clear ho0)))
                     have n0_ := Aside0.mk (Kd.R_drew HO_20.out)
                     have n1_ := Aside0.mk (Kd.R_drew HO_23.out)
                     have n2_ := Aside0.mk (Kd.R_drew HO_25.out)
                     have n3_ := Aside0.mk (Kd.R_drew HO610.out)
                     have n4_ := Aside0.mk (Kd.R_drew HO615.out)
                     have n5_ := Aside0.mk (Kd.R_drew HO620.out)
                     have n6_ := Aside0.mk (Kd.R_drew HO625.out)
                     have n7_ := Aside0.mk (below_drew1 HB.out)
                     clear HO_20
                     clear HO_23
                     clear HO_25
                     clear HO610
                     clear HO615
                     clear HO620
                     clear HO625
                     clear HB
                     have HO_20 := n0_
                     have HO_23 := n1_
                     have HO_25 := n2_
                     have HO610 := n3_
                     have HO615 := n4_
                     have HO620 := n5_
                     have HO625 := n6_
                     have HB := n7_
                     clear n0_ n1_ n2_ n3_ n4_ n5_ n6_ n7_
                     obtain ⟨Ao102, co102, eo102⟩ := Kd.R_slice HO610.out
                     (first | subst eo102 | (injection eo102 with f1_ f2_ f3_; have f4_ := f1_.symm; have f5_ := f3_.symm; clear f1_ f2_ f3_; subst f4_; subst f5_))
                     refine start_ (n := 45) (S := fun w' => True) (ds := []) (Array.replicate 45 false) (by kernel_rfl) rfl rfl trivial (fun hHeld => ?_); refine with_tabW laws_FnCuts.tab24 laws_FnCuts.bits24 (fun HT_ HW_ => ?_)
                     generalize w100.drew = w101 at HO_20 HO_23 HO_25 HO610 HO615 HO620 HO625 HB hHeld ⊢
                     refine pure_ (i := 0) (N := some 212) (v := ?_) (a' := ?_) (bq 45 1) rfl rfl (qn HT_) (fun _ _ _ h => h) (Or.inl ⟨by rfl, ?_⟩) ?_ ?_; rotate_left; focus (intro w'; go_simp; with_reducible rfl)
                     rotate_left; focus (simp only [Act.put, List.setIfInBounds_toArray, List.set_cons_zero, List.set_cons_succ, i64_w, i32_w]; rfl)
                     refine pure_ (i := 1) (N := some 213) (v := ?_) (a' := ?_) (bq 45 3) rfl rfl (qn HT_) (fun _ _ _ h => h) (Or.inl ⟨by rfl, ?_⟩) ?_ ?_; rotate_left; focus (intro w'; go_simp; with_reducible rfl)
                     rotate_left; focus (simp only [Act.put, List.setIfInBounds_toArray, List.set_cons_zero, List.set_cons_succ, i64_w, i32_w]; rfl)
                     refine pure_ (i := 2) (N := some 214) (v := ?_) (a' := ?_) (bq 45 7) rfl rfl (qn HT_) (fun _ _ _ h => h) (Or.inl ⟨by rfl, ?_⟩) ?_ ?_; rotate_left; focus (intro w'; go_simp; with_reducible rfl)
                     rotate_left; focus (simp only [Act.put, List.setIfInBounds_toArray, List.set_cons_zero, List.set_cons_succ, i64_w, i32_w]; rfl)
                     refine pure_ (i := 3) (N := some 215) (v := ?_) (a' := ?_) (bq 45 15) rfl rfl (qn HT_) (fun _ _ _ h => h) (Or.inl ⟨by rfl, ?_⟩) ?_ ?_; rotate_left; focus (intro w'; go_simp; with_reducible rfl)
                     rotate_left; focus (simp only [Act.put, List.setIfInBounds_toArray, List.set_cons_zero, List.set_cons_succ, i64_w, i32_w]; rfl)
                     refine pure_ (i := 4) (N := some 216) (v := ?_) (a' := ?_) (bq 45 31) rfl rfl (qn HT_) (fun _ _ _ h => h) (Or.inl ⟨by rfl, ?_⟩) ?_ ?_; rotate_left; focus (intro w'; go_simp; with_reducible rfl)
                     rotate_left; focus (simp only [Act.put, List.setIfInBounds_toArray, List.set_cons_zero, List.set_cons_succ, i64_w, i32_w]; rfl)
                     refine one_ (i := 5) (N := some 217) (bq 45 63) rfl rfl (qo HT_) (by decide) (fun K hK => ?_)
                     refine goes_ Try.func28 (by kernel_rfl) rfl #[.slice Ao102 t607.length co102, .slice (some ad606) t592.length co50] (by rfl) rfl rfl qA ?_
                     with_reducible refine (laws_sameInts.calls kj47 _ _ t607 _ _ t592 true _ ?side1 ?side2 ?side3 ?side4 A67.out).mono ?_
                     (case side1 => exact uC (Kd.R_reads' HO610.out).2.2)
                     (case side2 => exact (Kd.R_reads' HO610.out).2.1)
                     (case side3 => exact uC (Kd.R_reads' HO_20.out).2.2)
                     (case side4 => exact (Kd.R_reads' HO_20.out).2.1)
                     rintro e w' ⟨rfl, ⟨nd, rfl⟩⟩
                     refine ⟨_, rfl, ?_⟩
                     obtain ⟨Ao103, co103, eo103⟩ := Kd.R_slice HO615.out
                     (first | subst eo103 | (injection eo103 with f1_ f2_ f3_; have f4_ := f1_.symm; have f5_ := f3_.symm; clear f1_ f2_ f3_; subst f4_; subst f5_))
                     obtain ⟨Ao104, co104, eo104⟩ := Kd.R_slice HO620.out
                     (first | subst eo104 | (injection eo104 with f1_ f2_ f3_; have f4_ := f1_.symm; have f5_ := f3_.symm; clear f1_ f2_ f3_; subst f4_; subst f5_))
                     refine hK.out _ _ trivial (fun hHeld => ?_)
                     clear hK K
                     refine norm_ (a' := ?_) ?_ ?_
                     rotate_left
                     ·show Act.put _ (some 217) _ = _
                      simp only [Act.put, List.setIfInBounds_toArray, List.set_cons_zero, List.set_cons_succ, i64_w, i32_w]
                      rfl
                     refine pure_ (i := 6) (N := some 218) (v := ?_) (a' := ?_) (bq 45 127) rfl rfl (qn HT_) (fun _ _ _ h => h) (Or.inl ⟨by rfl, ?_⟩) ?_ ?_; rotate_left; focus (intro w'; go_simp; with_reducible rfl)
                     rotate_left; focus (simp only [Act.put, List.setIfInBounds_toArray, List.set_cons_zero, List.set_cons_succ, i64_w, i32_w]; rfl)
                     refine pure_ (i := 7) (N := some 219) (v := ?_) (a' := ?_) (bq 45 255) rfl rfl (qn HT_) (fun _ _ _ h => h) (Or.inl ⟨by rfl, ?_⟩) ?_ ?_; rotate_left; focus (intro w'; go_simp; with_reducible rfl)
                     rotate_left; focus (simp only [Act.put, List.setIfInBounds_toArray, List.set_cons_zero, List.set_cons_succ, i64_w, i32_w]; rfl)
                     refine pure_ (i := 8) (N := some 220) (v := ?_) (a' := ?_) (bq 45 511) rfl rfl (qn HT_) (fun _ _ _ h => h) (Or.inl ⟨by rfl, ?_⟩) ?_ ?_; rotate_left; focus (intro w'; go_simp; with_reducible rfl)
                     rotate_left; focus (simp only [Act.put, List.setIfInBounds_toArray, List.set_cons_zero, List.set_cons_succ, i64_w, i32_w]; rfl)
                     refine pure_ (i := 9) (N := some 221) (v := ?_) (a' := ?_) (bq 45 1023) rfl rfl (qn HT_) (fun _ _ _ h => h) (Or.inl ⟨by rfl, ?_⟩) ?_ ?_; rotate_left; focus (intro w'; go_simp; with_reducible rfl)
                     rotate_left; focus (simp only [Act.put, List.setIfInBounds_toArray, List.set_cons_zero, List.set_cons_succ, i64_w, i32_w]; rfl)
                     refine pure_ (i := 10) (N := some 222) (v := ?_) (a' := ?_) (bq 45 2047) rfl rfl (qn HT_) (fun _ _ _ h => h) (Or.inl ⟨by rfl, ?_⟩) ?_ ?_; rotate_left; focus (intro w'; go_simp; with_reducible rfl)
                     rotate_left; focus (simp only [Act.put, List.setIfInBounds_toArray, List.set_cons_zero, List.set_cons_succ, i64_w, i32_w]; rfl)
                     refine pure_ (i := 11) (N := some 223) (v := ?_) (a' := ?_) (bq 45 4095) rfl rfl (qn HT_) (fun _ _ _ h => h) (Or.inl ⟨by rfl, ?_⟩) ?_ ?_; rotate_left; focus (intro w'; go_simp; with_reducible rfl)
                     rotate_left; focus (simp only [Act.put, List.setIfInBounds_toArray, List.set_cons_zero, List.set_cons_succ, i64_w, i32_w]; rfl)
                     refine pure_ (i := 12) (N := some 224) (v := ?_) (a' := ?_) (bq 45 8191) rfl rfl (qn HT_) (fun _ _ _ h => h) (Or.inl ⟨by rfl, ?_⟩) ?_ ?_; rotate_left; focus (intro w'; go_simp; with_reducible rfl)
                     rotate_left; focus (simp only [Act.put, List.setIfInBounds_toArray, List.set_cons_zero, List.set_cons_succ, i64_w, i32_w]; rfl)
                     refine pure_ (i := 13) (N := some 225) (v := ?_) (a' := ?_) (bq 45 16383) rfl rfl (qn HT_) (fun _ _ _ h => h) (Or.inl ⟨by rfl, ?_⟩) ?_ ?_; rotate_left; focus (intro w'; go_simp; with_reducible rfl)
                     rotate_left; focus (simp only [Act.put, List.setIfInBounds_toArray, List.set_cons_zero, List.set_cons_succ, i64_w, i32_w]; rfl)
                     refine pure_ (i := 14) (N := some 226) (v := ?_) (a' := ?_) (bq 45 32767) rfl rfl (qn HT_) (fun _ _ _ h => h) (Or.inl ⟨by rfl, ?_⟩) ?_ ?_; rotate_left; focus (intro w'; go_simp; with_reducible rfl)
                     rotate_left; focus (simp only [Act.put, List.setIfInBounds_toArray, List.set_cons_zero, List.set_cons_succ, i64_w, i32_w]; rfl)
                     refine pure_ (i := 15) (N := some 227) (v := ?_) (a' := ?_) (bq 45 65535) rfl rfl (qn HT_) (fun _ _ _ h => h) (Or.inl ⟨by rfl, ?_⟩) ?_ ?_; rotate_left; focus (intro w'; go_simp; with_reducible rfl)
                     rotate_left; focus (simp only [Act.put, List.setIfInBounds_toArray, List.set_cons_zero, List.set_cons_succ, i64_w, i32_w]; rfl)
                     refine pure_ (i := 16) (N := some 228) (v := ?_) (a' := ?_) (bq 45 131071) rfl rfl (qn HT_) (fun _ _ _ h => h) (Or.inl ⟨by rfl, ?_⟩) ?_ ?_; rotate_left; focus (intro w'; go_simp; with_reducible rfl)
                     rotate_left; focus (simp only [Act.put, List.setIfInBounds_toArray, List.set_cons_zero, List.set_cons_succ, i64_w, i32_w]; rfl)
                     refine pure_ (i := 17) (N := some 229) (v := ?_) (a' := ?_) (bq 45 262143) rfl rfl (qn HT_) (fun _ _ _ h => h) (Or.inl ⟨by rfl, ?_⟩) ?_ ?_; rotate_left; focus (intro w'; go_simp; with_reducible rfl)
                     rotate_left; focus (simp only [Act.put, List.setIfInBounds_toArray, List.set_cons_zero, List.set_cons_succ, i64_w, i32_w]; rfl)
                     refine pure_ (i := 18) (N := some 230) (v := ?_) (a' := ?_) (bq 45 524287) rfl rfl (qn HT_) (fun _ _ _ h => h) (Or.inl ⟨by rfl, ?_⟩) ?_ ?_; rotate_left; focus (intro w'; go_simp; with_reducible rfl)
                     rotate_left; focus (simp only [Act.put, List.setIfInBounds_toArray, List.set_cons_zero, List.set_cons_succ, i64_w, i32_w]; rfl)
                     refine pure_ (i := 19) (N := some 231) (v := ?_) (a' := ?_) (bq 45 1048575) rfl rfl (qn HT_) (fun _ _ _ h => h) (Or.inl ⟨by rfl, ?_⟩) ?_ ?_; rotate_left; focus (intro w'; go_simp; with_reducible rfl)
                     rotate_left; focus (simp only [Act.put, List.setIfInBounds_toArray, List.set_cons_zero, List.set_cons_succ, i64_w, i32_w]; rfl)
                     refine pure_ (i := 20) (N := some 232) (v := ?_) (a' := ?_) (bq 45 2097151) rfl rfl (qn HT_) (fun _ _ _ h => h) (Or.inl ⟨by rfl, ?_⟩) ?_ ?_; rotate_left; focus (intro w'; go_simp; with_reducible rfl)
                     rotate_left; focus (simp only [Act.put, List.setIfInBounds_toArray, List.set_cons_zero, List.set_cons_succ, i64_w, i32_w]; rfl)
                     refine pure_ (i := 21) (N := some 233) (v := ?_) (a' := ?_) (bq 45 4194303) rfl rfl (qn HT_) (fun _ _ _ h => h) (Or.inl ⟨by rfl, ?_⟩) ?_ ?_; rotate_left; focus (intro w'; go_simp; with_reducible rfl)
                     rotate_left; focus (simp only [Act.put, List.setIfInBounds_toArray, List.set_cons_zero, List.set_cons_succ, i64_w, i32_w]; rfl)
                     refine pure_ (i := 22) (N := some 234) (v := ?_) (a' := ?_) (bq 45 8388607) rfl rfl (qn HT_) (fun _ _ _ h => h) (Or.inl ⟨by rfl, ?_⟩) ?_ ?_; rotate_left; focus (intro w'; go_simp; with_reducible rfl)
                     rotate_left; focus (simp only [Act.put, List.setIfInBounds_toArray, List.set_cons_zero, List.set_cons_succ, i64_w, i32_w]; rfl)
                     refine one_ (i := 23) (N := some 235) (bq 45 16777215) rfl rfl (qo HT_) (by decide) (fun K hK => ?_)
                     refine goes_ Try.func31 (by kernel_rfl) rfl #[.slice Ao103 t611.length co103, .slice Ao104 t616.length co104] (by rfl) rfl rfl qA ?_
                     with_reducible refine (laws_pSameRecords.calls kj47 _ _ t611 _ _ t616 true _ ?side1 ?side2 ?side3 ?side4 A72.out).mono ?_
                     (case side1 => exact uC (Kd.R_reads' HO615.out).2.2)
                     (case side2 => exact (Kd.R_reads' HO615.out).2.1)
                     (case side3 => exact uC (Kd.R_reads' HO620.out).2.2)
                     (case side4 => exact (Kd.R_reads' HO620.out).2.1)
                     rintro e w' ⟨rfl, ⟨nd, rfl⟩⟩
                     refine ⟨_, rfl, ?_⟩
                     obtain ⟨Ao105, co105, eo105⟩ := Kd.R_slice HO625.out
                     (first | subst eo105 | (injection eo105 with f1_ f2_ f3_; have f4_ := f1_.symm; have f5_ := f3_.symm; clear f1_ f2_ f3_; subst f4_; subst f5_))
                     refine hK.out _ _ trivial (fun hHeld => ?_)
                     clear hK K
                     refine norm_ (a' := ?_) ?_ ?_
                     rotate_left
                     ·show Act.put _ (some 235) _ = _
                      simp only [Act.put, List.setIfInBounds_toArray, List.set_cons_zero, List.set_cons_succ, i64_w, i32_w]
                      rfl
                     refine pure_ (i := 24) (N := some 236) (v := ?_) (a' := ?_) (bq 45 33554431) rfl rfl (qn HT_) (fun _ _ _ h => h) (Or.inl ⟨by rfl, ?_⟩) ?_ ?_; rotate_left; focus (intro w'; go_simp; with_reducible rfl)
                     rotate_left; focus (simp only [Act.put, List.setIfInBounds_toArray, List.set_cons_zero, List.set_cons_succ, i64_w, i32_w]; rfl)
                     refine pure_ (i := 25) (N := some 237) (v := ?_) (a' := ?_) (bq 45 67108863) rfl rfl (qn HT_) (fun _ _ _ h => h) (Or.inl ⟨by rfl, ?_⟩) ?_ ?_; rotate_left; focus (intro w'; go_simp; with_reducible rfl)
                     rotate_left; focus (simp only [Act.put, List.setIfInBounds_toArray, List.set_cons_zero, List.set_cons_succ, i64_w, i32_w]; rfl)
                     refine pure_ (i := 26) (N := some 238) (v := ?_) (a' := ?_) (bq 45 134217727) rfl rfl (qn HT_) (fun _ _ _ h => h) (Or.inl ⟨by rfl, ?_⟩) ?_ ?_; rotate_left; focus (intro w'; go_simp; with_reducible rfl)
                     rotate_left; focus (simp only [Act.put, List.setIfInBounds_toArray, List.set_cons_zero, List.set_cons_succ, i64_w, i32_w]; rfl)
                     refine pure_ (i := 27) (N := some 239) (v := ?_) (a' := ?_) (bq 45 268435455) rfl rfl (qn HT_) (fun _ _ _ h => h) (Or.inl ⟨by rfl, ?_⟩) ?_ ?_; rotate_left; focus (intro w'; go_simp; with_reducible rfl)
                     rotate_left; focus (simp only [Act.put, List.setIfInBounds_toArray, List.set_cons_zero, List.set_cons_succ, i64_w, i32_w]; rfl)
                     refine pure_ (i := 28) (N := some 240) (v := ?_) (a' := ?_) (bq 45 536870911) rfl rfl (qn HT_) (fun _ _ _ h => h) (Or.inl ⟨by rfl, ?_⟩) ?_ ?_; rotate_left; focus (intro w'; go_simp; with_reducible rfl)
                     rotate_left; focus (simp only [Act.put, List.setIfInBounds_toArray, List.set_cons_zero, List.set_cons_succ, i64_w, i32_w]; rfl)
                     refine pure_ (i := 29) (N := some 241) (v := ?_) (a' := ?_) (bq 45 1073741823) rfl rfl (qn HT_) (fun _ _ _ h => h) (Or.inl ⟨by rfl, ?_⟩) ?_ ?_; rotate_left; focus (intro w'; go_simp; with_reducible rfl)
                     rotate_left; focus (simp only [Act.put, List.setIfInBounds_toArray, List.set_cons_zero, List.set_cons_succ, i64_w, i32_w]; rfl)
                     refine pure_ (i := 30) (N := some 242) (v := ?_) (a' := ?_) (bq 45 2147483647) rfl rfl (qn HT_) (fun _ _ _ h => h) (Or.inl ⟨by rfl, ?_⟩) ?_ ?_; rotate_left; focus (intro w'; go_simp; with_reducible rfl)
                     rotate_left; focus (simp only [Act.put, List.setIfInBounds_toArray, List.set_cons_zero, List.set_cons_succ, i64_w, i32_w]; rfl)
                     refine pure_ (i := 31) (N := some 243) (v := ?_) (a' := ?_) (bq 45 4294967295) rfl rfl (qn HT_) (fun _ _ _ h => h) (Or.inl ⟨by rfl, ?_⟩) ?_ ?_; rotate_left; focus (intro w'; go_simp; with_reducible rfl)
                     rotate_left; focus (simp only [Act.put, List.setIfInBounds_toArray, List.set_cons_zero, List.set_cons_succ, i64_w, i32_w]; rfl)
                     refine pure_ (i := 32) (N := some 244) (v := ?_) (a' := ?_) (bq 45 8589934591) rfl rfl (qn HT_) (fun _ _ _ h => h) (Or.inl ⟨by rfl, ?_⟩) ?_ ?_; rotate_left; focus (intro w'; go_simp; with_reducible rfl)
                     rotate_left; focus (simp only [Act.put, List.setIfInBounds_toArray, List.set_cons_zero, List.set_cons_succ, i64_w, i32_w]; rfl)
                     refine pure_ (i := 33) (N := some 245) (v := undef) (a' := ?_) (bq 45 17179869183) rfl rfl (qn HT_) (fun _ _ _ h => h) (Or.inr ⟨by rfl, rfl⟩) ?_ ?_
                     rotate_left
                     ·simp only [Act.put, List.setIfInBounds_toArray, List.set_cons_zero, List.set_cons_succ, i64_w, i32_w]
                      rfl
                     refine pure_ (i := 34) (N := some 246) (v := undef) (a' := ?_) (bq 45 34359738367) rfl rfl (qn HT_) (fun _ _ _ h => h) (Or.inr ⟨by rfl, rfl⟩) ?_ ?_
                     rotate_left
                     ·simp only [Act.put, List.setIfInBounds_toArray, List.set_cons_zero, List.set_cons_succ, i64_w, i32_w]
                      rfl
                     refine pure_ (i := 35) (N := some 247) (v := undef) (a' := ?_) (bq 45 68719476735) rfl rfl (qn HT_) (fun _ _ _ h => h) (Or.inr ⟨by rfl, rfl⟩) ?_ ?_
                     rotate_left
                     ·simp only [Act.put, List.setIfInBounds_toArray, List.set_cons_zero, List.set_cons_succ, i64_w, i32_w]
                      rfl
                     refine pure_ (i := 36) (N := some 248) (v := undef) (a' := ?_) (bq 45 137438953471) rfl rfl (qn HT_) (fun _ _ _ h => h) (Or.inr ⟨by rfl, rfl⟩) ?_ ?_
                     rotate_left
                     ·simp only [Act.put, List.setIfInBounds_toArray, List.set_cons_zero, List.set_cons_succ, i64_w, i32_w]
                      rfl
                     refine pure_ (i := 37) (N := some 249) (v := undef) (a' := ?_) (bq 45 274877906943) rfl rfl (qn HT_) (fun _ _ _ h => h) (Or.inr ⟨by rfl, rfl⟩) ?_ ?_
                     rotate_left
                     ·simp only [Act.put, List.setIfInBounds_toArray, List.set_cons_zero, List.set_cons_succ, i64_w, i32_w]
                      rfl
                     refine pure_ (i := 38) (N := some 250) (v := undef) (a' := ?_) (bq 45 549755813887) rfl rfl (qn HT_) (fun _ _ _ h => h) (Or.inr ⟨by rfl, rfl⟩) ?_ ?_
                     rotate_left
                     ·simp only [Act.put, List.setIfInBounds_toArray, List.set_cons_zero, List.set_cons_succ, i64_w, i32_w]
                      rfl
                     refine pure_ (i := 39) (N := some 251) (v := undef) (a' := ?_) (bq 45 1099511627775) rfl rfl (qn HT_) (fun _ _ _ h => h) (Or.inr ⟨by rfl, rfl⟩) ?_ ?_
                     rotate_left
                     ·simp only [Act.put, List.setIfInBounds_toArray, List.set_cons_zero, List.set_cons_succ, i64_w, i32_w]
                      rfl
                     refine pure_ (i := 40) (N := some 252) (v := undef) (a' := ?_) (bq 45 2199023255551) rfl rfl (qn HT_) (fun _ _ _ h => h) (Or.inr ⟨by rfl, rfl⟩) ?_ ?_
                     rotate_left
                     ·simp only [Act.put, List.setIfInBounds_toArray, List.set_cons_zero, List.set_cons_succ, i64_w, i32_w]
                      rfl
                     refine pure_ (i := 41) (N := some 253) (v := undef) (a' := ?_) (bq 45 4398046511103) rfl rfl (qn HT_) (fun _ _ _ h => h) (Or.inr ⟨by rfl, rfl⟩) ?_ ?_
                     rotate_left
                     ·simp only [Act.put, List.setIfInBounds_toArray, List.set_cons_zero, List.set_cons_succ, i64_w, i32_w]
                      rfl
                     refine pure_ (i := 42) (N := some 254) (v := undef) (a' := ?_) (bq 45 8796093022207) rfl rfl (qn HT_) (fun _ _ _ h => h) (Or.inr ⟨by rfl, rfl⟩) ?_ ?_
                     rotate_left
                     ·simp only [Act.put, List.setIfInBounds_toArray, List.set_cons_zero, List.set_cons_succ, i64_w, i32_w]
                      rfl
                     refine pure_ (i := 43) (N := some 255) (v := ?_) (a' := ?_) (bq 45 17592186044415) rfl rfl (qn HT_) (fun _ _ _ h => h) (Or.inl ⟨by rfl, ?_⟩) ?_ ?_; rotate_left; focus (intro w'; go_simp; with_reducible rfl)
                     rotate_left; focus (simp only [Act.put, List.setIfInBounds_toArray, List.set_cons_zero, List.set_cons_succ, i64_w, i32_w]; rfl)
                     refine pure_ (i := 44) (N := some 256) (v := ?_) (a' := ?_) (bq 45 35184372088831) rfl rfl (qn HT_) (fun _ _ _ h => h) (Or.inl ⟨by rfl, ?_⟩) ?_ ?_; rotate_left; focus (intro w'; go_simp; with_reducible rfl)
                     rotate_left; focus (simp only [Act.put, List.setIfInBounds_toArray, List.set_cons_zero, List.set_cons_succ, i64_w, i32_w]; rfl)
                     refine done_ (done_of HT_.out (by kernel_rfl)) ?_
                     try go_wp2
                     go_meet
                     case rel => exact ⟨_, H', ⟨by have := HJ7.out; have := HJ17.out; have := HJ47.out; first | omega | exact Nat.le_refl _⟩, ⟨qB HB⟩⟩
                   ·replace c73 := Bool.eq_false_iff.mpr c73
                    subst c73
                    rw [if_neg (show ¬ (false = true) by decide)] at H
                    exact absurd H (by simp)
                  ·replace c71 := Bool.eq_false_iff.mpr c71
                   subst c71
                   rw [if_neg (show ¬ (false = true) by decide)] at H
                   exact absurd H (by simp)
                 ·replace c70 := Bool.eq_false_iff.mpr c70
                  subst c70
                  rw [if_neg (show ¬ (false = true) by decide)] at H
                  exact absurd H (by simp)
                ·replace c69 := Bool.eq_false_iff.mpr c69
                 subst c69
                 rw [if_neg (show ¬ (false = true) by decide)] at H
                 exact absurd H (by simp)
               ·replace c68 := Bool.eq_false_iff.mpr c68
                subst c68
                rw [if_neg (show ¬ (false = true) by decide)] at H
                exact absurd H (by simp)
              ·replace c66 := Bool.eq_false_iff.mpr c66
               subst c66
               rw [if_neg (show ¬ (false = true) by decide)] at H
               exact absurd H (by simp)
             ·rw [if_neg c61] at H
              exact absurd H (by simp)
            ·rw [if_neg c60] at H
             exact absurd H (by simp)
           ·replace c59 := Bool.eq_false_iff.mpr c59
            subst c59
            rw [if_neg (show ¬ (false = true) by decide)] at H
            have H' := Aside0.mk H
            clear H
            go_wp2
            go_meet
            case rel => exact ⟨_, H', ⟨by have := HJ7.out; have := HJ17.out; have := HJ47.out; first | omega | exact Nat.le_refl _⟩, ⟨qB HB⟩⟩
          case rest => as_aux_lemma =>
           clear HC58
           try clear c2
           try clear p2
           try clear c3
           try clear c5
           try clear c6
           try clear p6
           try clear q6
           try clear hx6
           try clear c7
           try clear c8
           try clear c28
           try clear c29
           try clear c30
           try clear c31
           try clear c33
           try clear c59
           try clear c60
           try clear p60
           try clear q60
           try clear hx60
           try clear c61
           try clear p64
           try clear c66
           try clear c68
           try clear c69
           try clear c70
           try clear c71
           try clear c73
           try clear c74
           try clear c74b0
           try clear c76
           try clear c77
           try clear c79
           try clear c81
           try clear hx606_0
           try clear p606
           try clear q606
           obtain ⟨kq, HA, HJ57, HB⟩ := hcut
           cases kq with
           | zero => exact absurd HA.out (by simp [laws_FnCuts.j3])
           | succ kj57 =>
            have H := HA.out
            clear HA
            simp only [laws_FnCuts.j3] at H
            replace H := Option.bind_eq_some_iff.mp H
            obtain ⟨⟨t637, t638⟩, A1060, H⟩ := H
            replace H : ((impl_LostAfterCut.f kj57 t637 t638).bind fun bt641 => ((spec_LostAfterCut.f kj57 t637 t638).bind fun bt643 => ((spec_DrawRecordNumbers.f kj57 l1).bind fun bt645 => ((impl_RecordNumbers.f bt645.1 bt645.2.1 bt645.2.2.1 bt645.2.2.2).bind fun bt650 => ((spec_RecordNumbers.f bt645.1 bt645.2.1 bt645.2.2.1 bt645.2.2.2).bind fun bt654 => ((spec_DrawRecoverRecords.f kj57 l1).bind fun t658 => ((impl_RecoverRecords.f kj57 t658).bind fun bt661 => ((spec_RecoverRecords.f kj57 t658).bind fun bt666 => ((spec_DrawIsJournalRecord.f kj57 l1).bind fun bt671 => (if (bt641.2 == bt643.2) = true then (if bt641.1 = bt643.1 then (if bt641.2 = true then (if bt643.1 ≥ 0 then (if bt643.1 ≤ 8 then (if (bt650.2 == bt654.2) = true then ((laws_sameInts.f kj57 bt650.1 bt654.1).bind fun t675 => (if t675 = true then (if (bt661.2.2 == bt666.2.2) = true then ((laws_pSameRecords.f kj57 bt661.1 bt666.1).bind fun t676 => (if t676 = true then (if bt661.2.1 = bt666.2.1 then ((impl_IsJournalRecord.f bt671.1 bt671.2.1 bt671.2.2).bind fun t677 => ((spec_IsJournalRecord.f bt671.1 bt671.2.1 bt671.2.2).bind fun t678 => (some (t677 == t678)))) else (some false)) else (some false))) else (some false)) else (some false))) else (some false)) else (some false)) else (some false)) else (if (bt650.2 == bt654.2) = true then ((laws_sameInts.f kj57 bt650.1 bt654.1).bind fun t679 => (if t679 = true then (if (bt661.2.2 == bt666.2.2) = true then ((laws_pSameRecords.f kj57 bt661.1 bt666.1).bind fun t680 => (if t680 = true then (if bt661.2.1 = bt666.2.1 then ((impl_IsJournalRecord.f bt671.1 bt671.2.1 bt671.2.2).bind fun t681 => ((spec_IsJournalRecord.f bt671.1 bt671.2.1 bt671.2.2).bind fun t682 => (some (t681 == t682)))) else (some false)) else (some false))) else (some false)) else (some false))) else (some false))) else (some false)) else (some false))))))))))) = some true := H
            have A106 := Aside0.mk A1060
            clear A1060
            replace H := Option.bind_eq_some_iff.mp H
            obtain ⟨⟨t641, t642⟩, A1070, H⟩ := H
            replace H : ((spec_LostAfterCut.f kj57 t637 t638).bind fun bt643 => ((spec_DrawRecordNumbers.f kj57 l1).bind fun bt645 => ((impl_RecordNumbers.f bt645.1 bt645.2.1 bt645.2.2.1 bt645.2.2.2).bind fun bt650 => ((spec_RecordNumbers.f bt645.1 bt645.2.1 bt645.2.2.1 bt645.2.2.2).bind fun bt654 => ((spec_DrawRecoverRecords.f kj57 l1).bind fun t658 => ((impl_RecoverRecords.f kj57 t658).bind fun bt661 => ((spec_RecoverRecords.f kj57 t658).bind fun bt666 => ((spec_DrawIsJournalRecord.f kj57 l1).bind fun bt671 => (if (t642 == bt643.2) = true then (if t641 = bt643.1 then (if t642 = true then (if bt643.1 ≥ 0 then (if bt643.1 ≤ 8 then (if (bt650.2 == bt654.2) = true then ((laws_sameInts.f kj57 bt650.1 bt654.1).bind fun t675 => (if t675 = true then (if (bt661.2.2 == bt666.2.2) = true then ((laws_pSameRecords.f kj57 bt661.1 bt666.1).bind fun t676 => (if t676 = true then (if bt661.2.1 = bt666.2.1 then ((impl_IsJournalRecord.f bt671.1 bt671.2.1 bt671.2.2).bind fun t677 => ((spec_IsJournalRecord.f bt671.1 bt671.2.1 bt671.2.2).bind fun t678 => (some (t677 == t678)))) else (some false)) else (some false))) else (some false)) else (some false))) else (some false)) else (some false)) else (some false)) else (if (bt650.2 == bt654.2) = true then ((laws_sameInts.f kj57 bt650.1 bt654.1).bind fun t679 => (if t679 = true then (if (bt661.2.2 == bt666.2.2) = true then ((laws_pSameRecords.f kj57 bt661.1 bt666.1).bind fun t680 => (if t680 = true then (if bt661.2.1 = bt666.2.1 then ((impl_IsJournalRecord.f bt671.1 bt671.2.1 bt671.2.2).bind fun t681 => ((spec_IsJournalRecord.f bt671.1 bt671.2.1 bt671.2.2).bind fun t682 => (some (t681 == t682)))) else (some false)) else (some false))) else (some false)) else (some false))) else (some false))) else (some false)) else (some false)))))))))) = some true := H
            have A107 := Aside0.mk A1070
            clear A1070
            replace H := Option.bind_eq_some_iff.mp H
            obtain ⟨⟨t643, t644⟩, A1080, H⟩ := H
            replace H : ((spec_DrawRecordNumbers.f kj57 l1).bind fun bt645 => ((impl_RecordNumbers.f bt645.1 bt645.2.1 bt645.2.2.1 bt645.2.2.2).bind fun bt650 => ((spec_RecordNumbers.f bt645.1 bt645.2.1 bt645.2.2.1 bt645.2.2.2).bind fun bt654 => ((spec_DrawRecoverRecords.f kj57 l1).bind fun t658 => ((impl_RecoverRecords.f kj57 t658).bind fun bt661 => ((spec_RecoverRecords.f kj57 t658).bind fun bt666 => ((spec_DrawIsJournalRecord.f kj57 l1).bind fun bt671 => (if (t642 == t644) = true then (if t641 = t643 then (if t642 = true then (if t643 ≥ 0 then (if t643 ≤ 8 then (if (bt650.2 == bt654.2) = true then ((laws_sameInts.f kj57 bt650.1 bt654.1).bind fun t675 => (if t675 = true then (if (bt661.2.2 == bt666.2.2) = true then ((laws_pSameRecords.f kj57 bt661.1 bt666.1).bind fun t676 => (if t676 = true then (if bt661.2.1 = bt666.2.1 then ((impl_IsJournalRecord.f bt671.1 bt671.2.1 bt671.2.2).bind fun t677 => ((spec_IsJournalRecord.f bt671.1 bt671.2.1 bt671.2.2).bind fun t678 => (some (t677 == t678)))) else (some false)) else (some false))) else (some false)) else (some false))) else (some false)) else (some false)) else (some false)) else (if (bt650.2 == bt654.2) = true then ((laws_sameInts.f kj57 bt650.1 bt654.1).bind fun t679 => (if t679 = true then (if (bt661.2.2 == bt666.2.2) = true then ((laws_pSameRecords.f kj57 bt661.1 bt666.1).bind fun t680 => (if t680 = true then (if bt661.2.1 = bt666.2.1 then ((impl_IsJournalRecord.f bt671.1 bt671.2.1 bt671.2.2).bind fun t681 => ((spec_IsJournalRecord.f bt671.1 bt671.2.1 bt671.2.2).bind fun t682 => (some (t681 == t682)))) else (some false)) else (some false))) else (some false)) else (some false))) else (some false))) else (some false)) else (some false))))))))) = some true := H
            have A108 := Aside0.mk A1080
            clear A1080
            replace H := Option.bind_eq_some_iff.mp H
            obtain ⟨⟨t645, t646, t647, t648⟩, A1090, H⟩ := H
            replace H : ((impl_RecordNumbers.f t645 t646 t647 t648).bind fun bt650 => ((spec_RecordNumbers.f t645 t646 t647 t648).bind fun bt654 => ((spec_DrawRecoverRecords.f kj57 l1).bind fun t658 => ((impl_RecoverRecords.f kj57 t658).bind fun bt661 => ((spec_RecoverRecords.f kj57 t658).bind fun bt666 => ((spec_DrawIsJournalRecord.f kj57 l1).bind fun bt671 => (if (t642 == t644) = true then (if t641 = t643 then (if t642 = true then (if t643 ≥ 0 then (if t643 ≤ 8 then (if (bt650.2 == bt654.2) = true then ((laws_sameInts.f kj57 bt650.1 bt654.1).bind fun t675 => (if t675 = true then (if (bt661.2.2 == bt666.2.2) = true then ((laws_pSameRecords.f kj57 bt661.1 bt666.1).bind fun t676 => (if t676 = true then (if bt661.2.1 = bt666.2.1 then ((impl_IsJournalRecord.f bt671.1 bt671.2.1 bt671.2.2).bind fun t677 => ((spec_IsJournalRecord.f bt671.1 bt671.2.1 bt671.2.2).bind fun t678 => (some (t677 == t678)))) else (some false)) else (some false))) else (some false)) else (some false))) else (some false)) else (some false)) else (some false)) else (if (bt650.2 == bt654.2) = true then ((laws_sameInts.f kj57 bt650.1 bt654.1).bind fun t679 => (if t679 = true then (if (bt661.2.2 == bt666.2.2) = true then ((laws_pSameRecords.f kj57 bt661.1 bt666.1).bind fun t680 => (if t680 = true then (if bt661.2.1 = bt666.2.1 then ((impl_IsJournalRecord.f bt671.1 bt671.2.1 bt671.2.2).bind fun t681 => ((spec_IsJournalRecord.f bt671.1 bt671.2.1 bt671.2.2).bind fun t682 => (some (t681 == t682)))) else (some false)) else (some false))) else (some false)) else (some false))) else (some false))) else (some false)) else (some false)))))))) = some true := H
            have A109 := Aside0.mk A1090
            clear A1090
            replace H := Option.bind_eq_some_iff.mp H
            obtain ⟨⟨t650, t653⟩, A1100, H⟩ := H
            replace H : ((spec_RecordNumbers.f t645 t646 t647 t648).bind fun bt654 => ((spec_DrawRecoverRecords.f kj57 l1).bind fun t658 => ((impl_RecoverRecords.f kj57 t658).bind fun bt661 => ((spec_RecoverRecords.f kj57 t658).bind fun bt666 => ((spec_DrawIsJournalRecord.f kj57 l1).bind fun bt671 => (if (t642 == t644) = true then (if t641 = t643 then (if t642 = true then (if t643 ≥ 0 then (if t643 ≤ 8 then (if (t653 == bt654.2) = true then ((laws_sameInts.f kj57 t650 bt654.1).bind fun t675 => (if t675 = true then (if (bt661.2.2 == bt666.2.2) = true then ((laws_pSameRecords.f kj57 bt661.1 bt666.1).bind fun t676 => (if t676 = true then (if bt661.2.1 = bt666.2.1 then ((impl_IsJournalRecord.f bt671.1 bt671.2.1 bt671.2.2).bind fun t677 => ((spec_IsJournalRecord.f bt671.1 bt671.2.1 bt671.2.2).bind fun t678 => (some (t677 == t678)))) else (some false)) else (some false))) else (some false)) else (some false))) else (some false)) else (some false)) else (some false)) else (if (t653 == bt654.2) = true then ((laws_sameInts.f kj57 t650 bt654.1).bind fun t679 => (if t679 = true then (if (bt661.2.2 == bt666.2.2) = true then ((laws_pSameRecords.f kj57 bt661.1 bt666.1).bind fun t680 => (if t680 = true then (if bt661.2.1 = bt666.2.1 then ((impl_IsJournalRecord.f bt671.1 bt671.2.1 bt671.2.2).bind fun t681 => ((spec_IsJournalRecord.f bt671.1 bt671.2.1 bt671.2.2).bind fun t682 => (some (t681 == t682)))) else (some false)) else (some false))) else (some false)) else (some false))) else (some false))) else (some false)) else (some false))))))) = some true := H
            have A110 := Aside0.mk A1100
            clear A1100
            replace H := Option.bind_eq_some_iff.mp H
            obtain ⟨⟨t654, t657⟩, A1110, H⟩ := H
            replace H : ((spec_DrawRecoverRecords.f kj57 l1).bind fun t658 => ((impl_RecoverRecords.f kj57 t658).bind fun bt661 => ((spec_RecoverRecords.f kj57 t658).bind fun bt666 => ((spec_DrawIsJournalRecord.f kj57 l1).bind fun bt671 => (if (t642 == t644) = true then (if t641 = t643 then (if t642 = true then (if t643 ≥ 0 then (if t643 ≤ 8 then (if (t653 == t657) = true then ((laws_sameInts.f kj57 t650 t654).bind fun t675 => (if t675 = true then (if (bt661.2.2 == bt666.2.2) = true then ((laws_pSameRecords.f kj57 bt661.1 bt666.1).bind fun t676 => (if t676 = true then (if bt661.2.1 = bt666.2.1 then ((impl_IsJournalRecord.f bt671.1 bt671.2.1 bt671.2.2).bind fun t677 => ((spec_IsJournalRecord.f bt671.1 bt671.2.1 bt671.2.2).bind fun t678 => (some (t677 == t678)))) else (some false)) else (some false))) else (some false)) else (some false))) else (some false)) else (some false)) else (some false)) else (if (t653 == t657) = true then ((laws_sameInts.f kj57 t650 t654).bind fun t679 => (if t679 = true then (if (bt661.2.2 == bt666.2.2) = true then ((laws_pSameRecords.f kj57 bt661.1 bt666.1).bind fun t680 => (if t680 = true then (if bt661.2.1 = bt666.2.1 then ((impl_IsJournalRecord.f bt671.1 bt671.2.1 bt671.2.2).bind fun t681 => ((spec_IsJournalRecord.f bt671.1 bt671.2.1 bt671.2.2).bind fun t682 => (some (t681 == t682)))) else (some false)) else (some false))) else (some false)) else (some false))) else (some false))) else (some false)) else (some false)))))) = some true := H
            have A111 := Aside0.mk A1110
            clear A1110
            replace H := Option.bind_eq_some_iff.mp H
            obtain ⟨t658, A1120, H⟩ := H
            replace H : ((impl_RecoverRecords.f kj57 t658).bind fun bt661 => ((spec_RecoverRecords.f kj57 t658).bind fun bt666 => ((spec_DrawIsJournalRecord.f kj57 l1).bind fun bt671 => (if (t642 == t644) = true then (if t641 = t643 then (if t642 = true then (if t643 ≥ 0 then (if t643 ≤ 8 then (if (t653 == t657) = true then ((laws_sameInts.f kj57 t650 t654).bind fun t675 => (if t675 = true then (if (bt661.2.2 == bt666.2.2) = true then ((laws_pSameRecords.f kj57 bt661.1 bt666.1).bind fun t676 => (if t676 = true then (if bt661.2.1 = bt666.2.1 then ((impl_IsJournalRecord.f bt671.1 bt671.2.1 bt671.2.2).bind fun t677 => ((spec_IsJournalRecord.f bt671.1 bt671.2.1 bt671.2.2).bind fun t678 => (some (t677 == t678)))) else (some false)) else (some false))) else (some false)) else (some false))) else (some false)) else (some false)) else (some false)) else (if (t653 == t657) = true then ((laws_sameInts.f kj57 t650 t654).bind fun t679 => (if t679 = true then (if (bt661.2.2 == bt666.2.2) = true then ((laws_pSameRecords.f kj57 bt661.1 bt666.1).bind fun t680 => (if t680 = true then (if bt661.2.1 = bt666.2.1 then ((impl_IsJournalRecord.f bt671.1 bt671.2.1 bt671.2.2).bind fun t681 => ((spec_IsJournalRecord.f bt671.1 bt671.2.1 bt671.2.2).bind fun t682 => (some (t681 == t682)))) else (some false)) else (some false))) else (some false)) else (some false))) else (some false))) else (some false)) else (some false))))) = some true := H
            have A112 := Aside0.mk A1120
            clear A1120
            replace H := Option.bind_eq_some_iff.mp H
            obtain ⟨⟨t661, t662, t663⟩, A1130, H⟩ := H
            replace H : ((spec_RecoverRecords.f kj57 t658).bind fun bt666 => ((spec_DrawIsJournalRecord.f kj57 l1).bind fun bt671 => (if (t642 == t644) = true then (if t641 = t643 then (if t642 = true then (if t643 ≥ 0 then (if t643 ≤ 8 then (if (t653 == t657) = true then ((laws_sameInts.f kj57 t650 t654).bind fun t675 => (if t675 = true then (if (t663 == bt666.2.2) = true then ((laws_pSameRecords.f kj57 t661 bt666.1).bind fun t676 => (if t676 = true then (if t662 = bt666.2.1 then ((impl_IsJournalRecord.f bt671.1 bt671.2.1 bt671.2.2).bind fun t677 => ((spec_IsJournalRecord.f bt671.1 bt671.2.1 bt671.2.2).bind fun t678 => (some (t677 == t678)))) else (some false)) else (some false))) else (some false)) else (some false))) else (some false)) else (some false)) else (some false)) else (if (t653 == t657) = true then ((laws_sameInts.f kj57 t650 t654).bind fun t679 => (if t679 = true then (if (t663 == bt666.2.2) = true then ((laws_pSameRecords.f kj57 t661 bt666.1).bind fun t680 => (if t680 = true then (if t662 = bt666.2.1 then ((impl_IsJournalRecord.f bt671.1 bt671.2.1 bt671.2.2).bind fun t681 => ((spec_IsJournalRecord.f bt671.1 bt671.2.1 bt671.2.2).bind fun t682 => (some (t681 == t682)))) else (some false)) else (some false))) else (some false)) else (some false))) else (some false))) else (some false)) else (some false)))) = some true := H
            have A113 := Aside0.mk A1130
            clear A1130
            replace H := Option.bind_eq_some_iff.mp H
            obtain ⟨⟨t666, t667, t668⟩, A1140, H⟩ := H
            replace H : ((spec_DrawIsJournalRecord.f kj57 l1).bind fun bt671 => (if (t642 == t644) = true then (if t641 = t643 then (if t642 = true then (if t643 ≥ 0 then (if t643 ≤ 8 then (if (t653 == t657) = true then ((laws_sameInts.f kj57 t650 t654).bind fun t675 => (if t675 = true then (if (t663 == t668) = true then ((laws_pSameRecords.f kj57 t661 t666).bind fun t676 => (if t676 = true then (if t662 = t667 then ((impl_IsJournalRecord.f bt671.1 bt671.2.1 bt671.2.2).bind fun t677 => ((spec_IsJournalRecord.f bt671.1 bt671.2.1 bt671.2.2).bind fun t678 => (some (t677 == t678)))) else (some false)) else (some false))) else (some false)) else (some false))) else (some false)) else (some false)) else (some false)) else (if (t653 == t657) = true then ((laws_sameInts.f kj57 t650 t654).bind fun t679 => (if t679 = true then (if (t663 == t668) = true then ((laws_pSameRecords.f kj57 t661 t666).bind fun t680 => (if t680 = true then (if t662 = t667 then ((impl_IsJournalRecord.f bt671.1 bt671.2.1 bt671.2.2).bind fun t681 => ((spec_IsJournalRecord.f bt671.1 bt671.2.1 bt671.2.2).bind fun t682 => (some (t681 == t682)))) else (some false)) else (some false))) else (some false)) else (some false))) else (some false))) else (some false)) else (some false))) = some true := H
            have A114 := Aside0.mk A1140
            clear A1140
            replace H := Option.bind_eq_some_iff.mp H
            obtain ⟨⟨t671, t672, t673⟩, A1150, H⟩ := H
            replace H : (if (t642 == t644) = true then (if t641 = t643 then (if t642 = true then (if t643 ≥ 0 then (if t643 ≤ 8 then (if (t653 == t657) = true then ((laws_sameInts.f kj57 t650 t654).bind fun t675 => (if t675 = true then (if (t663 == t668) = true then ((laws_pSameRecords.f kj57 t661 t666).bind fun t676 => (if t676 = true then (if t662 = t667 then ((impl_IsJournalRecord.f t671 t672 t673).bind fun t677 => ((spec_IsJournalRecord.f t671 t672 t673).bind fun t678 => (some (t677 == t678)))) else (some false)) else (some false))) else (some false)) else (some false))) else (some false)) else (some false)) else (some false)) else (if (t653 == t657) = true then ((laws_sameInts.f kj57 t650 t654).bind fun t679 => (if t679 = true then (if (t663 == t668) = true then ((laws_pSameRecords.f kj57 t661 t666).bind fun t680 => (if t680 = true then (if t662 = t667 then ((impl_IsJournalRecord.f t671 t672 t673).bind fun t681 => ((spec_IsJournalRecord.f t671 t672 t673).bind fun t682 => (some (t681 == t682)))) else (some false)) else (some false))) else (some false)) else (some false))) else (some false))) else (some false)) else (some false)) = some true := H
            have A115 := Aside0.mk A1150
            clear A1150
            by_cases c116 : (t642 == t644) = true
            ·rw [if_pos c116] at H
             have c116b0 : (t642 == t644) = true := c116
             (try (have c116b1 : decide (t642 = t644) = true := by simpa using c116))
             (try (have c116b2 : (t642 == t644) = true := by simpa using c116))
             clear c116
             by_cases c117 : t641 = t643
             ·rw [if_pos c117] at H
              have c117b0 : (t641 == t643) = true := beq_iff_eq.mpr c117
              have c117b1 : (t641 != t643) = false := bne_eq_false_iff_eq.mpr c117
              clear c117
              by_cases c118 : t642 = true
              ·subst c118
               rw [if_pos rfl] at H
               by_cases c119 : t643 ≥ 0
               ·rw [if_pos c119] at H
                have c119b0 : decide (0 ≤ t643) = true := decide_eq_true c119
                clear c119
                by_cases c120 : t643 ≤ 8
                ·rw [if_pos c120] at H
                 have c120b0 : decide (t643 ≤ 8) = true := decide_eq_true c120
                 clear c120
                 by_cases c121 : (t653 == t657) = true
                 ·rw [if_pos c121] at H
                  have c121b0 : (t653 == t657) = true := c121
                  (try (have c121b1 : decide (t653 = t657) = true := by simpa using c121))
                  (try (have c121b2 : (t653 == t657) = true := by simpa using c121))
                  clear c121
                  replace H := Option.bind_eq_some_iff.mp H
                  obtain ⟨t675, A1220, H⟩ := H
                  replace H : (if t675 = true then (if (t663 == t668) = true then ((laws_pSameRecords.f kj57 t661 t666).bind fun t676 => (if t676 = true then (if t662 = t667 then ((impl_IsJournalRecord.f t671 t672 t673).bind fun t677 => ((spec_IsJournalRecord.f t671 t672 t673).bind fun t678 => (some (t677 == t678)))) else (some false)) else (some false))) else (some false)) else (some false)) = some true := H
                  have A122 := Aside0.mk A1220
                  clear A1220
                  by_cases c123 : t675 = true
                  ·subst c123
                   rw [if_pos rfl] at H
                   by_cases c124 : (t663 == t668) = true
                   ·rw [if_pos c124] at H
                    have c124b0 : (t663 == t668) = true := c124
                    (try (have c124b1 : decide (t663 = t668) = true := by simpa using c124))
                    (try (have c124b2 : (t663 == t668) = true := by simpa using c124))
                    clear c124
                    replace H := Option.bind_eq_some_iff.mp H
                    obtain ⟨t676, A1250, H⟩ := H
                    replace H : (if t676 = true then (if t662 = t667 then ((impl_IsJournalRecord.f t671 t672 t673).bind fun t677 => ((spec_IsJournalRecord.f t671 t672 t673).bind fun t678 => (some (t677 == t678)))) else (some false)) else (some false)) = some true := H
                    have A125 := Aside0.mk A1250
                    clear A1250
                    by_cases c126 : t676 = true
                    ·subst c126
                     rw [if_pos rfl] at H
                     by_cases c127 : t662 = t667
                     ·rw [if_pos c127] at H
                      have c127b0 : (t662 == t667) = true := beq_iff_eq.mpr c127
                      have c127b1 : (t662 != t667) = false := bne_eq_false_iff_eq.mpr c127
                      clear c127
                      replace H := Option.bind_eq_some_iff.mp H
                      obtain ⟨t677, A1280, H⟩ := H
                      replace H : ((spec_IsJournalRecord.f t671 t672 t673).bind fun t678 => (some (t677 == t678))) = some true := H
                      have A128 := Aside0.mk A1280
                      clear A1280
                      replace H := Option.bind_eq_some_iff.mp H
                      obtain ⟨t678, A1290, H⟩ := H
                      replace H : (some (t677 == t678)) = some true := H
                      have A129 := Aside0.mk A1290
                      clear A1290
                      have HRT := Option.some.inj H
                      clear H
                      try go_wp2_with (first | ((with_reducible refine gate_callee (f := 35) rfl ?_); refine goesL_ (some 259) rfl rfl Try.func35 (by kernel_rfl) rfl #[.slice A1 l1.length c1] rfl qA ?_; (with_reducible refine (spec_DrawLostAfterCut.calls kj57 _ _ l1 t637 t638 _ ?side1 ?side2 A106.out).mono ?_); (case side1 => exact uC (Kd.C_below HR1.out HB.out)); (case side2 => exact HC1.out); rintro e w130 ⟨v639, rfl, ho0, hb⟩; refine ⟨_, rfl, ?_⟩; have n0_ := Aside0.mk (Kd.R_lower ho0 (below_size (qB HB))); have n1_ := Aside0.mk (below_step (qB HB) hb); clear HB; have HO640 := n0_; have HB := n1_; clear n0_ n1_; (try clear hb); (try clear hb2); (try clear hk); (try clear hi); (try clear ho0); obtain ⟨Ao131, co131, eo131⟩ := Kd.R_slice HO640.out; subst eo131) | ((with_reducible refine gate_callee (f := 36) rfl ?_); refine goesL_ (some 265) rfl rfl Try.func36 (by kernel_rfl) rfl #[.slice Ao131 t637.length co131, .int .i64 t638] rfl qA ?_; (with_reducible refine (impl_LostAfterCut.calls kj57 _ _ t637 t638 t641 true _ ?side1 ?side2 A107.out).mono ?_); (case side1 => exact uC (Kd.R_reads' HO640.out).2.2); (case side2 => exact (Kd.R_reads' HO640.out).2.1); rintro e w132 ⟨rfl, hb⟩; refine ⟨_, rfl, ?_⟩; have n0_ := Aside0.mk (Kd.R_below (qR HO640) hb); have n1_ := Aside0.mk (below_step (qB HB) hb); clear HO640; clear HB; have HO640 := n0_; have HB := n1_; clear n0_ n1_; (try clear hb); (try clear hb2); (try clear hk); (try clear hi)) | ((with_reducible refine gate_callee (f := 37) rfl ?_); refine goesL_ (some 271) rfl rfl Try.func37 (by kernel_rfl) rfl #[.slice Ao131 t637.length co131, .int .i64 t638] rfl qA ?_; (with_reducible refine (spec_LostAfterCut.calls kj57 _ _ t637 t638 t643 t644 _ ?side1 ?side2 A108.out).mono ?_); (case side1 => exact uC (Kd.R_reads' HO640.out).2.2); (case side2 => exact (Kd.R_reads' HO640.out).2.1); rintro e w133 ⟨rfl, hb⟩; refine ⟨_, rfl, ?_⟩; have n0_ := Aside0.mk (Kd.R_below (qR HO640) hb); have n1_ := Aside0.mk (below_step (qB HB) hb); clear HO640; clear HB; have HO640 := n0_; have HB := n1_; clear n0_ n1_; (try clear hb); (try clear hb2); (try clear hk); (try clear hi)) | ((with_reducible refine gate_callee (f := 38) rfl ?_); refine goesL_ (some 276) rfl rfl Try.func38 (by kernel_rfl) rfl #[.slice A1 l1.length c1] rfl qA ?_; (with_reducible refine (spec_DrawRecordNumbers.calls kj57 _ _ l1 t645 t646 t647 t648 _ ?side1 ?side2 A109.out).mono ?_); (case side1 => exact uC (Kd.C_below HR1.out HB.out)); (case side2 => exact HC1.out); rintro e w134 ⟨rfl, hb⟩; refine ⟨_, rfl, ?_⟩; have n0_ := Aside0.mk (Kd.R_below (qR HO640) hb); have n1_ := Aside0.mk (below_step (qB HB) hb); clear HO640; clear HB; have HO640 := n0_; have HB := n1_; clear n0_ n1_; (try clear hb); (try clear hb2); (try clear hk); (try clear hi)) | ((with_reducible refine gate_dst (N := 44) rfl ?_); (try (refine gate_guard (by rfl) ?_; dsimp only)); refine box_event ?hg (N := 44) ?hd (cs := #[.int .i64 0, .int .i64 0, .int .i64 0]) (t := 61) ?hr ?_; (case hd => rfl); (case hg => rfl); (case hr => first | (go_simp; done) | (go_simp; rfl)); intro gb649 hg w135 hbox hb; have n0_ := Aside0.mk (Kd.R_below (Kd.R_elderB (qR HO640) gb649 (Nat.le_of_eq hg.symm)) hb); have n1_ := Aside0.mk (below_step (qB HB) hb); have n2_ := Aside0.mk (hbox); have n3_ := Aside0.mk ((by rw [hg]; exact (below_size (qB HB)) : w.heap.size ≤ gb649)); have n4_ := Aside0.mk ((by rw [hg]; exact (below_size (qB HB)) : w.heap.size ≤ gb649)); clear HO640; clear HB; have HO640 := n0_; have HB := n1_; have BK649 := n2_; have GW649 := n3_; have GE649 := n4_; clear n0_ n1_ n2_ n3_ n4_; clear hb hbox hg; have hcz136_0 : w135.cell? ⟨gb649, 0, none⟩ = some (.int .i64 0) := (blk_cell BK649.out 0).trans rfl; have hcz136_1 : w135.cell? ⟨gb649, 1, none⟩ = some (.int .i64 0) := (blk_cell BK649.out 1).trans rfl; have hcz136_2 : w135.cell? ⟨gb649, 2, none⟩ = some (.int .i64 0) := (blk_cell BK649.out 2).trans rfl; have hfz136_0 := blk_frozen BK649.out 0; have hfz136_1 := blk_frozen BK649.out 1; have hfz136_2 := blk_frozen BK649.out 2) | ((with_reducible refine gate_callee (f := 39) rfl ?_); refine goesL_ (some 282) rfl rfl Try.func39 (by kernel_rfl) rfl #[.agg #[.int .i64 t645, .int .i64 t646, .int .i64 t647], .int .i64 t648] rfl qA ?_; (with_reducible refine (impl_RecordNumbers.calls t645 t646 t647 t648 t650 t653 _ A110.out).mono ?_); rintro e w137 ⟨v651, rfl, ho0, hb⟩; refine ⟨_, rfl, ?_⟩; have n0_ := Aside0.mk (Kd.R_below (by exact uR ((Kd.R_mono (Kd.R_far (p := ⟨gb649, 2, none⟩) (Kd.R_far (p := ⟨gb649, 1, none⟩) (Kd.R_far (p := ⟨gb649, 0, none⟩) (Kd.R_mono HO640.out (fun k_ hk => (⟨hk, hk.2⟩ : _ ∧ k_ ≠ gb649))) (fun _ hk => hk.2) (.int .i64 t645)) (fun _ hk => hk.2) (.int .i64 t646)) (fun _ hk => hk.2) (.int .i64 t647)) (fun _ h_ => h_.1)))) hb); have n1_ := Aside0.mk (Kd.R_lower ho0 (below_size (qT HB GE649))); have n2_ := Aside0.mk (blk_below (g := gb649) (o := .cells #[.int .i64 t645, .int .i64 t646, .int .i64 t647] 61 (0, 0)) (by (with_reducible repeat (first | refine blk_drewN ?_ _ | refine blk_drew ?_ | refine blk_alloc ?_ _)); refine blk_put (cs := #[.int .i64 t645, .int .i64 t646, .int .i64 0]) ?_ 2 _ rfl; (with_reducible repeat (first | refine blk_drewN ?_ _ | refine blk_drew ?_ | refine blk_alloc ?_ _)); refine blk_put (cs := #[.int .i64 t645, .int .i64 0, .int .i64 0]) ?_ 1 _ rfl; (with_reducible repeat (first | refine blk_drewN ?_ _ | refine blk_drew ?_ | refine blk_alloc ?_ _)); refine blk_put (cs := #[.int .i64 0, .int .i64 0, .int .i64 0]) ?_ 0 _ rfl; (with_reducible repeat (first | refine blk_drewN ?_ _ | refine blk_drew ?_ | refine blk_alloc ?_ _)); exact BK649.out) hb); have n3_ := Aside0.mk (below_step (qT HB GE649) hb); clear HO640; clear BK649; clear HB; have HO640 := n0_; have HO652 := n1_; have BK649 := n2_; have HB := n3_; clear n0_ n1_ n2_ n3_; (try clear hb); (try clear hb2); (try clear hk); (try clear hi); (try clear ho0); have hcz138_0 : w137.cell? ⟨gb649, 0, none⟩ = some (.int .i64 t645) := (blk_cell BK649.out 0).trans rfl; have hcz138_1 : w137.cell? ⟨gb649, 1, none⟩ = some (.int .i64 t646) := (blk_cell BK649.out 1).trans rfl; have hcz138_2 : w137.cell? ⟨gb649, 2, none⟩ = some (.int .i64 t647) := (blk_cell BK649.out 2).trans rfl; have hfz138_0 := blk_frozen BK649.out 0; have hfz138_1 := blk_frozen BK649.out 1; have hfz138_2 := blk_frozen BK649.out 2) | ((with_reducible refine gate_callee (f := 40) rfl ?_); refine goesL_ (some 288) rfl rfl Try.func40 (by kernel_rfl) rfl #[.agg #[.int .i64 t645, .int .i64 t646, .int .i64 t647], .int .i64 t648] rfl qA ?_; (with_reducible refine (spec_RecordNumbers.calls t645 t646 t647 t648 t654 t657 _ A111.out).mono ?_); rintro e w139 ⟨v655, rfl, ho0, hb⟩; refine ⟨_, rfl, ?_⟩; have n0_ := Aside0.mk (Kd.R_below (qR HO640) hb); have n1_ := Aside0.mk (Kd.R_elder' (qR HO652) (Kd.R_base ho0) hb); have n2_ := Aside0.mk (Kd.R_lower (Kd.R_new' ho0 (Kd.R_lt (qR HO652))) (below_size (qT HB GE649))); have n3_ := Aside0.mk (blk_below (g := gb649) (o := .cells #[.int .i64 t645, .int .i64 t646, .int .i64 t647] 61 (0, 0)) (qK BK649) hb); have n4_ := Aside0.mk (below_step (qT HB GE649) hb); clear HO640; clear HO652; clear BK649; clear HB; have HO640 := n0_; have HO652 := n1_; have HO656 := n2_; have BK649 := n3_; have HB := n4_; clear n0_ n1_ n2_ n3_ n4_; (try clear hb); (try clear hb2); (try clear hk); (try clear hi); (try clear ho0)) | ((with_reducible refine gate_callee (f := 41) rfl ?_); refine goesL_ (some 292) rfl rfl Try.func41 (by kernel_rfl) rfl #[.slice A1 l1.length c1] rfl qA ?_; (with_reducible refine (spec_DrawRecoverRecords.calls kj57 _ _ l1 t658 _ ?side1 ?side2 A112.out).mono ?_); (case side1 => exact uC (Kd.C_below HR1.out HB.out)); (case side2 => exact HC1.out); rintro e w140 ⟨v659, rfl, ho0, hb⟩; refine ⟨_, rfl, ?_⟩; have n0_ := Aside0.mk (Kd.R_below (qR HO640) hb); have n1_ := Aside0.mk (Kd.R_elder' (qR HO652) (Kd.R_base ho0) hb); have n2_ := Aside0.mk (Kd.R_elder' (qR HO656) (Kd.R_base ho0) hb); have n3_ := Aside0.mk (Kd.R_lower (Kd.R_new' (Kd.R_new' ho0 (Kd.R_lt (qR HO652))) (Kd.R_lt (qR HO656))) (below_size (qT HB GE649))); have n4_ := Aside0.mk (blk_below (g := gb649) (o := .cells #[.int .i64 t645, .int .i64 t646, .int .i64 t647] 61 (0, 0)) (qK BK649) hb); have n5_ := Aside0.mk (below_step (qT HB GE649) hb); clear HO640; clear HO652; clear HO656; clear BK649; clear HB; have HO640 := n0_; have HO652 := n1_; have HO656 := n2_; have HO660 := n3_; have BK649 := n4_; have HB := n5_; clear n0_ n1_ n2_ n3_ n4_ n5_; (try clear hb); (try clear hb2); (try clear hk); (try clear hi); (try clear ho0); obtain ⟨Ao141, co141, eo141⟩ := Kd.R_slice HO660.out; subst eo141) | ((with_reducible refine gate_callee (f := 29) rfl ?_); refine goesL_ (some 295) rfl rfl Try.func29 (by kernel_rfl) rfl #[.slice Ao141 t658.length co141] rfl qA ?_; (with_reducible refine (impl_RecoverRecords.calls kj57 _ _ t658 t661 t662 t663 _ ?side1 ?side2 A113.out).mono ?_); (case side1 => exact uC (Kd.R_reads' HO660.out).2.2); (case side2 => exact (Kd.R_reads' HO660.out).2.1); rintro e w142 ⟨v664, rfl, ho0, hb⟩; refine ⟨_, rfl, ?_⟩; have n0_ := Aside0.mk (Kd.R_elder' (qR HO640) (Kd.R_base ho0) hb); have n1_ := Aside0.mk (Kd.R_below (qR HO652) hb); have n2_ := Aside0.mk (Kd.R_below (qR HO656) hb); have n3_ := Aside0.mk (Kd.R_below (qR HO660) hb); have n4_ := Aside0.mk (Kd.R_lower (Kd.R_newB (Kd.R_new' ho0 (Kd.R_lt (qR HO640))) (g := gb649) (o := .cells #[.int .i64 t645, .int .i64 t646, .int .i64 t647] 61 (0, 0)) (qK BK649)) (below_size (qT HB GE649))); have n5_ := Aside0.mk (blk_below (g := gb649) (o := .cells #[.int .i64 t645, .int .i64 t646, .int .i64 t647] 61 (0, 0)) (qK BK649) hb); have n6_ := Aside0.mk (below_step (qT HB GE649) hb); clear HO640; clear HO652; clear HO656; clear HO660; clear BK649; clear HB; have HO640 := n0_; have HO652 := n1_; have HO656 := n2_; have HO660 := n3_; have HO665 := n4_; have BK649 := n5_; have HB := n6_; clear n0_ n1_ n2_ n3_ n4_ n5_ n6_; (try clear hb); (try clear hb2); (try clear hk); (try clear hi); (try clear ho0)) | ((with_reducible refine gate_callee (f := 30) rfl ?_); refine goesL_ (some 301) rfl rfl Try.func30 (by kernel_rfl) rfl #[.slice Ao141 t658.length co141] rfl qA ?_; (with_reducible refine (spec_RecoverRecords.calls kj57 _ _ t658 t666 t667 t668 _ ?side1 ?side2 A114.out).mono ?_); (case side1 => exact uC (Kd.R_reads' HO660.out).2.2); (case side2 => exact (Kd.R_reads' HO660.out).2.1); rintro e w143 ⟨v669, rfl, ho0, hb⟩; refine ⟨_, rfl, ?_⟩; have n0_ := Aside0.mk (Kd.R_elder' (qR HO640) (Kd.R_base ho0) hb); have n1_ := Aside0.mk (Kd.R_below (qR HO652) hb); have n2_ := Aside0.mk (Kd.R_below (qR HO656) hb); have n3_ := Aside0.mk (Kd.R_below (qR HO660) hb); have n4_ := Aside0.mk (Kd.R_elder' (qR HO665) (Kd.R_base ho0) hb); have n5_ := Aside0.mk (Kd.R_lower (Kd.R_newB (Kd.R_new' (Kd.R_new' ho0 (Kd.R_lt (qR HO640))) (Kd.R_lt (qR HO665))) (g := gb649) (o := .cells #[.int .i64 t645, .int .i64 t646, .int .i64 t647] 61 (0, 0)) (qK BK649)) (below_size (qT HB GE649))); have n6_ := Aside0.mk (blk_below (g := gb649) (o := .cells #[.int .i64 t645, .int .i64 t646, .int .i64 t647] 61 (0, 0)) (qK BK649) hb); have n7_ := Aside0.mk (below_step (qT HB GE649) hb); clear HO640; clear HO652; clear HO656; clear HO660; clear HO665; clear BK649; clear HB; have HO640 := n0_; have HO652 := n1_; have HO656 := n2_; have HO660 := n3_; have HO665 := n4_; have HO670 := n5_; have BK649 := n6_; have HB := n7_; clear n0_ n1_ n2_ n3_ n4_ n5_ n6_ n7_; (try clear hb); (try clear hb2); (try clear hk); (try clear hi); (try clear ho0)) | ((with_reducible refine gate_callee (f := 42) rfl ?_); refine goesL_ (some 306) rfl rfl Try.func42 (by kernel_rfl) rfl #[.slice A1 l1.length c1] rfl qA ?_; (with_reducible refine (spec_DrawIsJournalRecord.calls kj57 _ _ l1 t671 t672 t673 _ ?side1 ?side2 A115.out).mono ?_); (case side1 => exact uC (Kd.C_below HR1.out HB.out)); (case side2 => exact HC1.out); rintro e w144 ⟨rfl, hb⟩; refine ⟨_, rfl, ?_⟩; have n0_ := Aside0.mk (Kd.R_below (qR HO640) hb); have n1_ := Aside0.mk (Kd.R_below (qR HO652) hb); have n2_ := Aside0.mk (Kd.R_below (qR HO656) hb); have n3_ := Aside0.mk (Kd.R_below (qR HO660) hb); have n4_ := Aside0.mk (Kd.R_below (qR HO665) hb); have n5_ := Aside0.mk (Kd.R_below (qR HO670) hb); have n6_ := Aside0.mk (blk_below (g := gb649) (o := .cells #[.int .i64 t645, .int .i64 t646, .int .i64 t647] 61 (0, 0)) (qK BK649) hb); have n7_ := Aside0.mk (below_step (qT HB GE649) hb); clear HO640; clear HO652; clear HO656; clear HO660; clear HO665; clear HO670; clear BK649; clear HB; have HO640 := n0_; have HO652 := n1_; have HO656 := n2_; have HO660 := n3_; have HO665 := n4_; have HO670 := n5_; have BK649 := n6_; have HB := n7_; clear n0_ n1_ n2_ n3_ n4_ n5_ n6_ n7_; (try clear hb); (try clear hb2); (try clear hk); (try clear hi)) | ((with_reducible refine gate_dst (N := 57) rfl ?_); (try (refine gate_guard (by rfl) ?_; dsimp only)); refine box_event ?hg (N := 57) ?hd (cs := #[.int .i64 0, .int .i64 0, .int .i64 0]) (t := 61) ?hr ?_; (case hd => rfl); (case hg => rfl); (case hr => first | (go_simp; done) | (go_simp; rfl)); intro gb674 hg w145 hbox hb; have n0_ := Aside0.mk (Kd.R_below (Kd.R_elderB (qR HO640) gb674 (Nat.le_of_eq hg.symm)) hb); have n1_ := Aside0.mk (Kd.R_below (qR HO652) hb); have n2_ := Aside0.mk (Kd.R_below (qR HO656) hb); have n3_ := Aside0.mk (Kd.R_below (qR HO660) hb); have n4_ := Aside0.mk (Kd.R_below (Kd.R_elderB (qR HO665) gb674 (Nat.le_of_eq hg.symm)) hb); have n5_ := Aside0.mk (Kd.R_below (Kd.R_elderB (qR HO670) gb674 (Nat.le_of_eq hg.symm)) hb); have n6_ := Aside0.mk (blk_below (g := gb649) (o := .cells #[.int .i64 t645, .int .i64 t646, .int .i64 t647] 61 (0, 0)) (qK BK649) hb); have n7_ := Aside0.mk (below_step (qT HB GE649) hb); have n8_ := Aside0.mk (hbox); have n9_ := Aside0.mk ((by rw [hg]; exact (below_size (qT HB GE649)) : w.heap.size ≤ gb674)); have n10_ := Aside0.mk ((by rw [hg]; exact (below_size (qT HB GE649)) : w.heap.size ≤ gb674)); have n11_ := Aside0.mk ((by rw [hg]; exact Nat.ne_of_lt (blk_lt (g := gb649) (o := .cells #[.int .i64 t645, .int .i64 t646, .int .i64 t647] 61 (0, 0)) (qK BK649)) : gb649 ≠ gb674)); have n12_ := Aside0.mk ((by rw [hg]; exact Nat.ne_of_gt (blk_lt (g := gb649) (o := .cells #[.int .i64 t645, .int .i64 t646, .int .i64 t647] 61 (0, 0)) (qK BK649)) : gb674 ≠ gb649)); clear HO640; clear HO652; clear HO656; clear HO660; clear HO665; clear HO670; clear BK649; clear HB; have HO640 := n0_; have HO652 := n1_; have HO656 := n2_; have HO660 := n3_; have HO665 := n4_; have HO670 := n5_; have BK649 := n6_; have HB := n7_; have BK674 := n8_; have GW674 := n9_; have GE674 := n10_; have NB649_674 := n11_; have NB674_649 := n12_; clear n0_ n1_ n2_ n3_ n4_ n5_ n6_ n7_ n8_ n9_ n10_ n11_ n12_; clear hb hbox hg; have hnb146 := NB674_649.out; have hnc146 := NB649_674.out; have hcz147_0 : w145.cell? ⟨gb674, 0, none⟩ = some (.int .i64 0) := (blk_cell BK674.out 0).trans rfl; have hcz147_1 : w145.cell? ⟨gb674, 1, none⟩ = some (.int .i64 0) := (blk_cell BK674.out 1).trans rfl; have hcz147_2 : w145.cell? ⟨gb674, 2, none⟩ = some (.int .i64 0) := (blk_cell BK674.out 2).trans rfl; have hfz147_0 := blk_frozen BK674.out 0; have hfz147_1 := blk_frozen BK674.out 1; have hfz147_2 := blk_frozen BK674.out 2))
                      have n0_ : Aside0 (Kd.R k61 61 (((w145.setCell ⟨gb674, 0, none⟩ (.int .i64 t671)).setCell ⟨gb674, 1, none⟩ (.int .i64 t672)).setCell ⟨gb674, 2, none⟩ (.int .i64 t673)) w.heap.size (fun k_ => some k_ ≠ (v664 : Value).ownBlock ∧ some k_ ≠ (v669 : Value).ownBlock ∧ k_ ≠ gb649 ∧ k_ ≠ gb674) (.slice Ao131 t637.length co131) t637) := ⟨by exact uR (Kd.R_mono (Kd.R_far (p := ⟨gb674, 2, none⟩) (Kd.R_far (p := ⟨gb674, 1, none⟩) (Kd.R_far (p := ⟨gb674, 0, none⟩) (Kd.R_mono HO640.out (fun k_ hk => (⟨hk, hk.2⟩ : _ ∧ k_ ≠ gb674))) (fun _ hk => hk.2) (.int .i64 t671)) (fun _ hk => hk.2) (.int .i64 t672)) (fun _ hk => hk.2) (.int .i64 t673)) (fun _ hk => ⟨hk.1.1.1.2, ⟨hk.1.1.2, ⟨hk.1.1.1.1.2, hk.1.2⟩⟩⟩))⟩
                      have n1_ : Aside0 (Kd.R (Kd.int .i64) 3 (((w145.setCell ⟨gb674, 0, none⟩ (.int .i64 t671)).setCell ⟨gb674, 1, none⟩ (.int .i64 t672)).setCell ⟨gb674, 2, none⟩ (.int .i64 t673)) w.heap.size (fun k_ => some k_ ≠ (v655 : Value).ownBlock ∧ some k_ ≠ (.slice Ao141 t658.length co141 : Value).ownBlock) v651 t650) := ⟨by exact uR (Kd.R_mono (Kd.R_far (p := ⟨gb674, 2, none⟩) (Kd.R_far (p := ⟨gb674, 1, none⟩) (Kd.R_far (p := ⟨gb674, 0, none⟩) (Kd.R_types HO652.out BK674.out (by decide)) (fun _ hk => hk.2) (.int .i64 t671)) (fun _ hk => hk.2) (.int .i64 t672)) (fun _ hk => hk.2) (.int .i64 t673)) (fun _ hk => ⟨hk.1.1.2, hk.1.2⟩))⟩
                      have n2_ : Aside0 (Kd.R (Kd.int .i64) 3 (((w145.setCell ⟨gb674, 0, none⟩ (.int .i64 t671)).setCell ⟨gb674, 1, none⟩ (.int .i64 t672)).setCell ⟨gb674, 2, none⟩ (.int .i64 t673)) w.heap.size (fun k_ => some k_ ≠ (v651 : Value).ownBlock ∧ some k_ ≠ (.slice Ao141 t658.length co141 : Value).ownBlock) v655 t654) := ⟨by exact uR (Kd.R_mono (Kd.R_far (p := ⟨gb674, 2, none⟩) (Kd.R_far (p := ⟨gb674, 1, none⟩) (Kd.R_far (p := ⟨gb674, 0, none⟩) (Kd.R_types HO656.out BK674.out (by decide)) (fun _ hk => hk.2) (.int .i64 t671)) (fun _ hk => hk.2) (.int .i64 t672)) (fun _ hk => hk.2) (.int .i64 t673)) (fun _ hk => ⟨hk.1.1.2, hk.1.2⟩))⟩
                      have n3_ : Aside0 (Kd.R (Kd.int .i64) 3 (((w145.setCell ⟨gb674, 0, none⟩ (.int .i64 t671)).setCell ⟨gb674, 1, none⟩ (.int .i64 t672)).setCell ⟨gb674, 2, none⟩ (.int .i64 t673)) w.heap.size (fun k_ => some k_ ≠ (v651 : Value).ownBlock ∧ some k_ ≠ (v655 : Value).ownBlock) (.slice Ao141 t658.length co141) t658) := ⟨by exact uR (Kd.R_mono (Kd.R_far (p := ⟨gb674, 2, none⟩) (Kd.R_far (p := ⟨gb674, 1, none⟩) (Kd.R_far (p := ⟨gb674, 0, none⟩) (Kd.R_types HO660.out BK674.out (by decide)) (fun _ hk => hk.2) (.int .i64 t671)) (fun _ hk => hk.2) (.int .i64 t672)) (fun _ hk => hk.2) (.int .i64 t673)) (fun _ hk => ⟨hk.1.1.2, hk.1.2⟩))⟩
                      have n4_ : Aside0 (Kd.R k61 61 (((w145.setCell ⟨gb674, 0, none⟩ (.int .i64 t671)).setCell ⟨gb674, 1, none⟩ (.int .i64 t672)).setCell ⟨gb674, 2, none⟩ (.int .i64 t673)) w.heap.size (fun k_ => some k_ ≠ (.slice Ao131 t637.length co131 : Value).ownBlock ∧ some k_ ≠ (v669 : Value).ownBlock ∧ k_ ≠ gb649 ∧ k_ ≠ gb674) v664 t661) := ⟨by exact uR (Kd.R_mono (Kd.R_far (p := ⟨gb674, 2, none⟩) (Kd.R_far (p := ⟨gb674, 1, none⟩) (Kd.R_far (p := ⟨gb674, 0, none⟩) (Kd.R_mono HO665.out (fun k_ hk => (⟨hk, hk.2⟩ : _ ∧ k_ ≠ gb674))) (fun _ hk => hk.2) (.int .i64 t671)) (fun _ hk => hk.2) (.int .i64 t672)) (fun _ hk => hk.2) (.int .i64 t673)) (fun _ hk => ⟨hk.1.1.1.1.2, ⟨hk.1.1.2, ⟨hk.1.1.1.2, hk.1.2⟩⟩⟩))⟩
                      have n5_ : Aside0 (Kd.R k61 61 (((w145.setCell ⟨gb674, 0, none⟩ (.int .i64 t671)).setCell ⟨gb674, 1, none⟩ (.int .i64 t672)).setCell ⟨gb674, 2, none⟩ (.int .i64 t673)) w.heap.size (fun k_ => some k_ ≠ (.slice Ao131 t637.length co131 : Value).ownBlock ∧ some k_ ≠ (v664 : Value).ownBlock ∧ k_ ≠ gb649 ∧ k_ ≠ gb674) v669 t666) := ⟨by exact uR (Kd.R_mono (Kd.R_far (p := ⟨gb674, 2, none⟩) (Kd.R_far (p := ⟨gb674, 1, none⟩) (Kd.R_far (p := ⟨gb674, 0, none⟩) (Kd.R_mono HO670.out (fun k_ hk => (⟨hk, hk.2⟩ : _ ∧ k_ ≠ gb674))) (fun _ hk => hk.2) (.int .i64 t671)) (fun _ hk => hk.2) (.int .i64 t672)) (fun _ hk => hk.2) (.int .i64 t673)) (fun _ hk => ⟨hk.1.1.1.1.2, ⟨hk.1.1.1.2, ⟨hk.1.1.2, hk.1.2⟩⟩⟩))⟩
                      have n6_ : Aside0 ((((w145.setCell ⟨gb674, 0, none⟩ (.int .i64 t671)).setCell ⟨gb674, 1, none⟩ (.int .i64 t672)).setCell ⟨gb674, 2, none⟩ (.int .i64 t673)).heap[gb649]? = some (.cells #[.int .i64 t645, .int .i64 t646, .int .i64 t647] 61 (0, 0))) := ⟨by (with_reducible repeat (first | refine blk_drewN ?_ _ | refine blk_drew ?_ | refine blk_alloc ?_ _)); refine blk_far ?_ NB649_674.out _; (with_reducible repeat (first | refine blk_drewN ?_ _ | refine blk_drew ?_ | refine blk_alloc ?_ _)); refine blk_far ?_ NB649_674.out _; (with_reducible repeat (first | refine blk_drewN ?_ _ | refine blk_drew ?_ | refine blk_alloc ?_ _)); refine blk_far ?_ NB649_674.out _; (with_reducible repeat (first | refine blk_drewN ?_ _ | refine blk_drew ?_ | refine blk_alloc ?_ _)); exact BK649.out⟩
                      have n7_ : Aside0 ((((w145.setCell ⟨gb674, 0, none⟩ (.int .i64 t671)).setCell ⟨gb674, 1, none⟩ (.int .i64 t672)).setCell ⟨gb674, 2, none⟩ (.int .i64 t673)).heap[gb674]? = some (.cells #[.int .i64 t671, .int .i64 t672, .int .i64 t673] 61 (0, 0))) := ⟨by (with_reducible repeat (first | refine blk_drewN ?_ _ | refine blk_drew ?_ | refine blk_alloc ?_ _)); refine blk_put (cs := #[.int .i64 t671, .int .i64 t672, .int .i64 0]) ?_ 2 _ rfl; (with_reducible repeat (first | refine blk_drewN ?_ _ | refine blk_drew ?_ | refine blk_alloc ?_ _)); refine blk_put (cs := #[.int .i64 t671, .int .i64 0, .int .i64 0]) ?_ 1 _ rfl; (with_reducible repeat (first | refine blk_drewN ?_ _ | refine blk_drew ?_ | refine blk_alloc ?_ _)); refine blk_put (cs := #[.int .i64 0, .int .i64 0, .int .i64 0]) ?_ 0 _ rfl; (with_reducible repeat (first | refine blk_drewN ?_ _ | refine blk_drew ?_ | refine blk_alloc ?_ _)); exact BK674.out⟩
                      have n8_ : Aside0 (Below w.heap.size w (((w145.setCell ⟨gb674, 0, none⟩ (.int .i64 t671)).setCell ⟨gb674, 1, none⟩ (.int .i64 t672)).setCell ⟨gb674, 2, none⟩ (.int .i64 t673))) := ⟨qU HB⟩
                      (try clear HO640)
                      (try clear HO652)
                      (try clear HO656)
                      (try clear HO660)
                      (try clear HO665)
                      (try clear HO670)
                      (try clear BK649)
                      (try clear BK674)
                      (try clear HB)
                      generalize (((w145.setCell ⟨gb674, 0, none⟩ (.int .i64 t671)).setCell ⟨gb674, 1, none⟩ (.int .i64 t672)).setCell ⟨gb674, 2, none⟩ (.int .i64 t673)) = w148 at n0_ n1_ n2_ n3_ n4_ n5_ n6_ n7_ n8_ ⊢
                      have HO640 := n0_
                      have HO652 := n1_
                      have HO656 := n2_
                      have HO660 := n3_
                      have HO665 := n4_
                      have HO670 := n5_
                      have BK649 := n6_
                      have BK674 := n7_
                      have HB := n8_
                      clear n0_ n1_ n2_ n3_ n4_ n5_ n6_ n7_ n8_
                      have n0_ := Aside0.mk (Kd.R_drew HO640.out)
                      have n1_ := Aside0.mk (Kd.R_drew HO652.out)
                      have n2_ := Aside0.mk (Kd.R_drew HO656.out)
                      have n3_ := Aside0.mk (Kd.R_drew HO660.out)
                      have n4_ := Aside0.mk (Kd.R_drew HO665.out)
                      have n5_ := Aside0.mk (Kd.R_drew HO670.out)
                      have n6_ := Aside0.mk (blk_drew BK649.out)
                      have n7_ := Aside0.mk (blk_drew BK674.out)
                      have n8_ := Aside0.mk (below_drew1 HB.out)
                      clear HO640
                      clear HO652
                      clear HO656
                      clear HO660
                      clear HO665
                      clear HO670
                      clear BK649
                      clear BK674
                      clear HB
                      have HO640 := n0_
                      have HO652 := n1_
                      have HO656 := n2_
                      have HO660 := n3_
                      have HO665 := n4_
                      have HO670 := n5_
                      have BK649 := n6_
                      have BK674 := n7_
                      have HB := n8_
                      clear n0_ n1_ n2_ n3_ n4_ n5_ n6_ n7_ n8_
                      obtain ⟨Ao150, co150, eo150⟩ := Kd.R_slice HO652.out
                      (first | subst eo150 | (injection eo150 with f1_ f2_ f3_; have f4_ := f1_.symm; have f5_ := f3_.symm; clear f1_ f2_ f3_; subst f4_; subst f5_))
                      obtain ⟨Ao151, co151, eo151⟩ := Kd.R_slice HO656.out
                      (first | subst eo151 | (injection eo151 with f1_ f2_ f3_; have f4_ := f1_.symm; have f5_ := f3_.symm; clear f1_ f2_ f3_; subst f4_; subst f5_))
                      refine start_ (n := 53) (S := fun w' => w'.cell? ⟨gb674, 0, none⟩ = some (.int .i64 t671) ∧ w'.cell? ⟨gb674, 1, none⟩ = some (.int .i64 t672) ∧ w'.cell? ⟨gb674, 2, none⟩ = some (.int .i64 t673)) (ds := []) (Array.replicate 53 false) (by kernel_rfl) rfl rfl ⟨(blk_cell BK674.out 0).trans rfl, (blk_cell BK674.out 1).trans rfl, (blk_cell BK674.out 2).trans rfl⟩ (fun hHeld => ?_); refine with_tabW laws_FnCuts.tab36 laws_FnCuts.bits36 (fun HT_ HW_ => ?_)
                      generalize w148.drew = w149 at HO640 HO652 HO656 HO660 HO665 HO670 BK649 BK674 HB hHeld ⊢
                      refine pure_ (i := 0) (N := some 307) (v := ?_) (a' := ?_) (bq 53 1) rfl rfl (qn HT_) (fun _ _ _ h => h) (Or.inl ⟨by rfl, ?_⟩) ?_ ?_; rotate_left; focus (intro w'; go_simp; with_reducible rfl)
                      rotate_left; focus (simp only [Act.put, List.setIfInBounds_toArray, List.set_cons_zero, List.set_cons_succ, i64_w, i32_w]; rfl)
                      refine pure_ (i := 1) (N := some 308) (v := ?_) (a' := ?_) (bq 53 3) rfl rfl (qn HT_) (fun _ _ _ h => h) (Or.inl ⟨by rfl, ?_⟩) ?_ ?_; rotate_left; focus (intro w'; go_simp; with_reducible rfl)
                      rotate_left; focus (simp only [Act.put, List.setIfInBounds_toArray, List.set_cons_zero, List.set_cons_succ, i64_w, i32_w]; rfl)
                      refine pure_ (i := 2) (N := some 309) (v := ?_) (a' := ?_) (bq 53 7) rfl rfl (qn HT_) (fun _ _ _ h => h) (Or.inl ⟨by rfl, ?_⟩) ?_ ?_; rotate_left; focus (intro w'; go_simp; with_reducible rfl)
                      rotate_left; focus (simp only [Act.put, List.setIfInBounds_toArray, List.set_cons_zero, List.set_cons_succ, i64_w, i32_w]; rfl)
                      refine pure_ (i := 3) (N := some 310) (v := ?_) (a' := ?_) (bq 53 15) rfl rfl (qn HT_) (fun _ _ _ h => h) (Or.inl ⟨by rfl, ?_⟩) ?_ ?_; rotate_left; focus (intro w'; go_simp; with_reducible rfl)
                      rotate_left; focus (simp only [Act.put, List.setIfInBounds_toArray, List.set_cons_zero, List.set_cons_succ, i64_w, i32_w]; rfl)
                      refine pure_ (i := 4) (N := some 311) (v := ?_) (a' := ?_) (bq 53 31) rfl rfl (qn HT_) (fun _ _ _ h => h) (Or.inl ⟨by rfl, ?_⟩) ?_ ?_; rotate_left; focus (intro w'; go_simp; with_reducible rfl)
                      rotate_left; focus (simp only [Act.put, List.setIfInBounds_toArray, List.set_cons_zero, List.set_cons_succ, i64_w, i32_w]; rfl)
                      refine pure_ (i := 5) (N := some 312) (v := ?_) (a' := ?_) (bq 53 63) rfl rfl (qn HT_) (fun _ _ _ h => h) (Or.inl ⟨by rfl, ?_⟩) ?_ ?_; rotate_left; focus (intro w'; go_simp; with_reducible rfl)
                      rotate_left; focus (simp only [Act.put, List.setIfInBounds_toArray, List.set_cons_zero, List.set_cons_succ, i64_w, i32_w]; rfl)
                      refine pure_ (i := 6) (N := some 313) (v := ?_) (a' := ?_) (bq 53 127) rfl rfl (qn HT_) (fun _ _ _ h => h) (Or.inl ⟨by rfl, ?_⟩) ?_ ?_; rotate_left; focus (intro w'; go_simp; with_reducible rfl)
                      rotate_left; focus (simp only [Act.put, List.setIfInBounds_toArray, List.set_cons_zero, List.set_cons_succ, i64_w, i32_w]; rfl)
                      refine pure_ (i := 7) (N := some 314) (v := ?_) (a' := ?_) (bq 53 255) rfl rfl (qn HT_) (fun _ _ _ h => h) (Or.inl ⟨by rfl, ?_⟩) ?_ ?_; rotate_left; focus (intro w'; go_simp; with_reducible rfl)
                      rotate_left; focus (simp only [Act.put, List.setIfInBounds_toArray, List.set_cons_zero, List.set_cons_succ, i64_w, i32_w]; rfl)
                      refine pure_ (i := 8) (N := some 315) (v := ?_) (a' := ?_) (bq 53 511) rfl rfl (qn HT_) (fun _ _ _ h => h) (Or.inl ⟨by rfl, ?_⟩) ?_ ?_; rotate_left; focus (intro w'; go_simp; with_reducible rfl)
                      rotate_left; focus (simp only [Act.put, List.setIfInBounds_toArray, List.set_cons_zero, List.set_cons_succ, i64_w, i32_w]; rfl)
                      refine pure_ (i := 9) (N := some 316) (v := ?_) (a' := ?_) (bq 53 1023) rfl rfl (qn HT_) (fun _ _ _ h => h) (Or.inl ⟨by rfl, ?_⟩) ?_ ?_; rotate_left; focus (intro w'; go_simp; with_reducible rfl)
                      rotate_left; focus (simp only [Act.put, List.setIfInBounds_toArray, List.set_cons_zero, List.set_cons_succ, i64_w, i32_w]; rfl)
                      refine pure_ (i := 10) (N := some 317) (v := ?_) (a' := ?_) (bq 53 2047) rfl rfl (qn HT_) (fun _ _ _ h => h) (Or.inl ⟨by rfl, ?_⟩) ?_ ?_; rotate_left; focus (intro w'; go_simp; with_reducible rfl)
                      rotate_left; focus (simp only [Act.put, List.setIfInBounds_toArray, List.set_cons_zero, List.set_cons_succ, i64_w, i32_w]; rfl)
                      refine pure_ (i := 11) (N := some 318) (v := ?_) (a' := ?_) (bq 53 4095) rfl rfl (qn HT_) (fun _ _ _ h => h) (Or.inl ⟨by rfl, ?_⟩) ?_ ?_; rotate_left; focus (intro w'; go_simp; with_reducible rfl)
                      rotate_left; focus (simp only [Act.put, List.setIfInBounds_toArray, List.set_cons_zero, List.set_cons_succ, i64_w, i32_w]; rfl)
                      refine pure_ (i := 12) (N := some 319) (v := ?_) (a' := ?_) (bq 53 8191) rfl rfl (qn HT_) (fun _ _ _ h => h) (Or.inl ⟨by rfl, ?_⟩) ?_ ?_; rotate_left; focus (intro w'; go_simp; with_reducible rfl)
                      rotate_left; focus (simp only [Act.put, List.setIfInBounds_toArray, List.set_cons_zero, List.set_cons_succ, i64_w, i32_w]; rfl)
                      refine pure_ (i := 13) (N := some 320) (v := ?_) (a' := ?_) (bq 53 16383) rfl rfl (qn HT_) (fun _ _ _ h => h) (Or.inl ⟨by rfl, ?_⟩) ?_ ?_; rotate_left; focus (intro w'; go_simp; with_reducible rfl)
                      rotate_left; focus (simp only [Act.put, List.setIfInBounds_toArray, List.set_cons_zero, List.set_cons_succ, i64_w, i32_w]; rfl)
                      refine pure_ (i := 14) (N := some 321) (v := ?_) (a' := ?_) (bq 53 32767) rfl rfl (qn HT_) (fun _ _ _ h => h) (Or.inl ⟨by rfl, ?_⟩) ?_ ?_; rotate_left; focus (intro w'; go_simp; with_reducible rfl)
                      rotate_left; focus (simp only [Act.put, List.setIfInBounds_toArray, List.set_cons_zero, List.set_cons_succ, i64_w, i32_w]; rfl)
                      refine pure_ (i := 15) (N := some 322) (v := ?_) (a' := ?_) (bq 53 65535) rfl rfl (qn HT_) (fun _ _ _ h => h) (Or.inl ⟨by rfl, ?_⟩) ?_ ?_; rotate_left; focus (intro w'; go_simp; with_reducible rfl)
                      rotate_left; focus (simp only [Act.put, List.setIfInBounds_toArray, List.set_cons_zero, List.set_cons_succ, i64_w, i32_w]; rfl)
                      refine pure_ (i := 16) (N := some 323) (v := ?_) (a' := ?_) (bq 53 131071) rfl rfl (qn HT_) (fun _ _ _ h => h) (Or.inl ⟨by rfl, ?_⟩) ?_ ?_; rotate_left; focus (intro w'; go_simp; with_reducible rfl)
                      rotate_left; focus (simp only [Act.put, List.setIfInBounds_toArray, List.set_cons_zero, List.set_cons_succ, i64_w, i32_w]; rfl)
                      refine pure_ (i := 17) (N := some 324) (v := ?_) (a' := ?_) (bq 53 262143) rfl rfl (qn HT_) (fun _ _ _ h => h) (Or.inl ⟨by rfl, ?_⟩) ?_ ?_; rotate_left; focus (intro w'; go_simp; with_reducible rfl)
                      rotate_left; focus (simp only [Act.put, List.setIfInBounds_toArray, List.set_cons_zero, List.set_cons_succ, i64_w, i32_w]; rfl)
                      refine pure_ (i := 18) (N := some 325) (v := ?_) (a' := ?_) (bq 53 524287) rfl rfl (qn HT_) (fun _ _ _ h => h) (Or.inl ⟨by rfl, ?_⟩) ?_ ?_; rotate_left; focus (intro w'; go_simp; with_reducible rfl)
                      rotate_left; focus (simp only [Act.put, List.setIfInBounds_toArray, List.set_cons_zero, List.set_cons_succ, i64_w, i32_w]; rfl)
                      refine pure_ (i := 19) (N := some 326) (v := ?_) (a' := ?_) (bq 53 1048575) rfl rfl (qn HT_) (fun _ _ _ h => h) (Or.inl ⟨by rfl, ?_⟩) ?_ ?_; rotate_left; focus (intro w'; go_simp; with_reducible rfl)
                      rotate_left; focus (simp only [Act.put, List.setIfInBounds_toArray, List.set_cons_zero, List.set_cons_succ, i64_w, i32_w]; rfl)
                      refine pure_ (i := 20) (N := some 327) (v := ?_) (a' := ?_) (bq 53 2097151) rfl rfl (qn HT_) (fun _ _ _ h => h) (Or.inl ⟨by rfl, ?_⟩) ?_ ?_; rotate_left; focus (intro w'; go_simp; with_reducible rfl)
                      rotate_left; focus (simp only [Act.put, List.setIfInBounds_toArray, List.set_cons_zero, List.set_cons_succ, i64_w, i32_w]; rfl)
                      refine pure_ (i := 21) (N := some 328) (v := ?_) (a' := ?_) (bq 53 4194303) rfl rfl (qn HT_) (fun _ _ _ h => h) (Or.inl ⟨by rfl, ?_⟩) ?_ ?_; rotate_left; focus (intro w'; go_simp; with_reducible rfl)
                      rotate_left; focus (simp only [Act.put, List.setIfInBounds_toArray, List.set_cons_zero, List.set_cons_succ, i64_w, i32_w]; rfl)
                      refine pure_ (i := 22) (N := some 329) (v := ?_) (a' := ?_) (bq 53 8388607) rfl rfl (qn HT_) (fun _ _ _ h => h) (Or.inl ⟨by rfl, ?_⟩) ?_ ?_; rotate_left; focus (intro w'; go_simp; with_reducible rfl)
                      rotate_left; focus (simp only [Act.put, List.setIfInBounds_toArray, List.set_cons_zero, List.set_cons_succ, i64_w, i32_w]; rfl)
                      refine pure_ (i := 23) (N := some 330) (v := ?_) (a' := ?_) (bq 53 16777215) rfl rfl (qn HT_) (fun _ _ _ h => h) (Or.inl ⟨by rfl, ?_⟩) ?_ ?_; rotate_left; focus (intro w'; go_simp; with_reducible rfl)
                      rotate_left; focus (simp only [Act.put, List.setIfInBounds_toArray, List.set_cons_zero, List.set_cons_succ, i64_w, i32_w]; rfl)
                      refine pure_ (i := 24) (N := some 331) (v := ?_) (a' := ?_) (bq 53 33554431) rfl rfl (qn HT_) (fun _ _ _ h => h) (Or.inl ⟨by rfl, ?_⟩) ?_ ?_; rotate_left; focus (intro w'; go_simp; with_reducible rfl)
                      rotate_left; focus (simp only [Act.put, List.setIfInBounds_toArray, List.set_cons_zero, List.set_cons_succ, i64_w, i32_w]; rfl)
                      refine pure_ (i := 25) (N := some 332) (v := ?_) (a' := ?_) (bq 53 67108863) rfl rfl (qn HT_) (fun _ _ _ h => h) (Or.inl ⟨by rfl, ?_⟩) ?_ ?_; rotate_left; focus (intro w'; go_simp; with_reducible rfl)
                      rotate_left; focus (simp only [Act.put, List.setIfInBounds_toArray, List.set_cons_zero, List.set_cons_succ, i64_w, i32_w]; rfl)
                      refine pure_ (i := 26) (N := some 333) (v := ?_) (a' := ?_) (bq 53 134217727) rfl rfl (qn HT_) (fun _ _ _ h => h) (Or.inl ⟨by rfl, ?_⟩) ?_ ?_; rotate_left; focus (intro w'; go_simp; with_reducible rfl)
                      rotate_left; focus (simp only [Act.put, List.setIfInBounds_toArray, List.set_cons_zero, List.set_cons_succ, i64_w, i32_w]; rfl)
                      refine pure_ (i := 27) (N := some 334) (v := ?_) (a' := ?_) (bq 53 268435455) rfl rfl (qn HT_) (fun _ _ _ h => h) (Or.inl ⟨by rfl, ?_⟩) ?_ ?_; rotate_left; focus (intro w'; go_simp; with_reducible rfl)
                      rotate_left; focus (simp only [Act.put, List.setIfInBounds_toArray, List.set_cons_zero, List.set_cons_succ, i64_w, i32_w]; rfl)
                      refine one_ (i := 28) (N := some 335) (bq 53 536870911) rfl rfl (qo HT_) (by decide) (fun K hK => ?_)
                      refine goes_ Try.func28 (by kernel_rfl) rfl #[.slice Ao150 t650.length co150, .slice Ao151 t654.length co151] (by rfl) rfl rfl qA ?_
                      with_reducible refine (laws_sameInts.calls kj57 _ _ t650 _ _ t654 true _ ?side1 ?side2 ?side3 ?side4 A122.out).mono ?_
                      (case side1 => exact uC (Kd.R_reads' HO652.out).2.2)
                      (case side2 => exact (Kd.R_reads' HO652.out).2.1)
                      (case side3 => exact uC (Kd.R_reads' HO656.out).2.2)
                      (case side4 => exact (Kd.R_reads' HO656.out).2.1)
                      rintro e w' ⟨rfl, ⟨nd, rfl⟩⟩
                      refine ⟨_, rfl, ?_⟩
                      obtain ⟨Ao152, co152, eo152⟩ := Kd.R_slice HO665.out
                      (first | subst eo152 | (injection eo152 with f1_ f2_ f3_; have f4_ := f1_.symm; have f5_ := f3_.symm; clear f1_ f2_ f3_; subst f4_; subst f5_))
                      obtain ⟨Ao153, co153, eo153⟩ := Kd.R_slice HO670.out
                      (first | subst eo153 | (injection eo153 with f1_ f2_ f3_; have f4_ := f1_.symm; have f5_ := f3_.symm; clear f1_ f2_ f3_; subst f4_; subst f5_))
                      refine hK.out _ _ ⟨(blk_cell BK674.out 0).trans rfl, (blk_cell BK674.out 1).trans rfl, (blk_cell BK674.out 2).trans rfl⟩ (fun hHeld => ?_)
                      clear hK K
                      refine norm_ (a' := ?_) ?_ ?_
                      rotate_left
                      ·show Act.put _ (some 335) _ = _
                       simp only [Act.put, List.setIfInBounds_toArray, List.set_cons_zero, List.set_cons_succ, i64_w, i32_w]
                       rfl
                      refine pure_ (i := 29) (N := some 336) (v := ?_) (a' := ?_) (bq 53 1073741823) rfl rfl (qn HT_) (fun _ _ _ h => h) (Or.inl ⟨by rfl, ?_⟩) ?_ ?_; rotate_left; focus (intro w'; go_simp; with_reducible rfl)
                      rotate_left; focus (simp only [Act.put, List.setIfInBounds_toArray, List.set_cons_zero, List.set_cons_succ, i64_w, i32_w]; rfl)
                      refine pure_ (i := 30) (N := some 337) (v := ?_) (a' := ?_) (bq 53 2147483647) rfl rfl (qn HT_) (fun _ _ _ h => h) (Or.inl ⟨by rfl, ?_⟩) ?_ ?_; rotate_left; focus (intro w'; go_simp; with_reducible rfl)
                      rotate_left; focus (simp only [Act.put, List.setIfInBounds_toArray, List.set_cons_zero, List.set_cons_succ, i64_w, i32_w]; rfl)
                      refine pure_ (i := 31) (N := some 338) (v := ?_) (a' := ?_) (bq 53 4294967295) rfl rfl (qn HT_) (fun _ _ _ h => h) (Or.inl ⟨by rfl, ?_⟩) ?_ ?_; rotate_left; focus (intro w'; go_simp; with_reducible rfl)
                      rotate_left; focus (simp only [Act.put, List.setIfInBounds_toArray, List.set_cons_zero, List.set_cons_succ, i64_w, i32_w]; rfl)
                      refine pure_ (i := 32) (N := some 339) (v := ?_) (a' := ?_) (bq 53 8589934591) rfl rfl (qn HT_) (fun _ _ _ h => h) (Or.inl ⟨by rfl, ?_⟩) ?_ ?_; rotate_left; focus (intro w'; go_simp; with_reducible rfl)
                      rotate_left; focus (simp only [Act.put, List.setIfInBounds_toArray, List.set_cons_zero, List.set_cons_succ, i64_w, i32_w]; rfl)
                      refine pure_ (i := 33) (N := some 340) (v := ?_) (a' := ?_) (bq 53 17179869183) rfl rfl (qn HT_) (fun _ _ _ h => h) (Or.inl ⟨by rfl, ?_⟩) ?_ ?_; rotate_left; focus (intro w'; go_simp; with_reducible rfl)
                      rotate_left; focus (simp only [Act.put, List.setIfInBounds_toArray, List.set_cons_zero, List.set_cons_succ, i64_w, i32_w]; rfl)
                      refine pure_ (i := 34) (N := some 341) (v := ?_) (a' := ?_) (bq 53 34359738367) rfl rfl (qn HT_) (fun _ _ _ h => h) (Or.inl ⟨by rfl, ?_⟩) ?_ ?_; rotate_left; focus (intro w'; go_simp; with_reducible rfl)
                      rotate_left; focus (simp only [Act.put, List.setIfInBounds_toArray, List.set_cons_zero, List.set_cons_succ, i64_w, i32_w]; rfl)
                      refine pure_ (i := 35) (N := some 342) (v := ?_) (a' := ?_) (bq 53 68719476735) rfl rfl (qn HT_) (fun _ _ _ h => h) (Or.inl ⟨by rfl, ?_⟩) ?_ ?_; rotate_left; focus (intro w'; go_simp; with_reducible rfl)
                      rotate_left; focus (simp only [Act.put, List.setIfInBounds_toArray, List.set_cons_zero, List.set_cons_succ, i64_w, i32_w]; rfl)
                      refine pure_ (i := 36) (N := some 343) (v := ?_) (a' := ?_) (bq 53 137438953471) rfl rfl (qn HT_) (fun _ _ _ h => h) (Or.inl ⟨by rfl, ?_⟩) ?_ ?_; rotate_left; focus (intro w'; go_simp; with_reducible rfl)
                      rotate_left; focus (simp only [Act.put, List.setIfInBounds_toArray, List.set_cons_zero, List.set_cons_succ, i64_w, i32_w]; rfl)
                      refine pure_ (i := 37) (N := some 344) (v := ?_) (a' := ?_) (bq 53 274877906943) rfl rfl (qn HT_) (fun _ _ _ h => h) (Or.inl ⟨by rfl, ?_⟩) ?_ ?_; rotate_left; focus (intro w'; go_simp; with_reducible rfl)
                      rotate_left; focus (simp only [Act.put, List.setIfInBounds_toArray, List.set_cons_zero, List.set_cons_succ, i64_w, i32_w]; rfl)
                      refine one_ (i := 38) (N := some 345) (bq 53 549755813887) rfl rfl (qo HT_) (by decide) (fun K hK => ?_)
                      refine goes_ Try.func31 (by kernel_rfl) rfl #[.slice Ao152 t661.length co152, .slice Ao153 t666.length co153] (by rfl) rfl rfl qA ?_
                      with_reducible refine (laws_pSameRecords.calls kj57 _ _ t661 _ _ t666 true _ ?side1 ?side2 ?side3 ?side4 A125.out).mono ?_
                      (case side1 => exact uC (Kd.R_reads' HO665.out).2.2)
                      (case side2 => exact (Kd.R_reads' HO665.out).2.1)
                      (case side3 => exact uC (Kd.R_reads' HO670.out).2.2)
                      (case side4 => exact (Kd.R_reads' HO670.out).2.1)
                      rintro e w' ⟨rfl, ⟨nd, rfl⟩⟩
                      refine ⟨_, rfl, ?_⟩
                      refine hK.out _ _ ⟨(blk_cell BK674.out 0).trans rfl, (blk_cell BK674.out 1).trans rfl, (blk_cell BK674.out 2).trans rfl⟩ (fun hHeld => ?_)
                      clear hK K
                      refine norm_ (a' := ?_) ?_ ?_
                      rotate_left
                      ·show Act.put _ (some 345) _ = _
                       simp only [Act.put, List.setIfInBounds_toArray, List.set_cons_zero, List.set_cons_succ, i64_w, i32_w]
                       rfl
                      refine pure_ (i := 39) (N := some 346) (v := ?_) (a' := ?_) (bq 53 1099511627775) rfl rfl (qn HT_) (fun _ _ _ h => h) (Or.inl ⟨by rfl, ?_⟩) ?_ ?_; rotate_left; focus (intro w'; go_simp; with_reducible rfl)
                      rotate_left; focus (simp only [Act.put, List.setIfInBounds_toArray, List.set_cons_zero, List.set_cons_succ, i64_w, i32_w]; rfl)
                      refine pure_ (i := 40) (N := some 347) (v := ?_) (a' := ?_) (bq 53 2199023255551) rfl rfl (qn HT_) (fun _ _ _ h => h) (Or.inl ⟨by rfl, ?_⟩) ?_ ?_; rotate_left; focus (intro w'; go_simp; with_reducible rfl)
                      rotate_left; focus (simp only [Act.put, List.setIfInBounds_toArray, List.set_cons_zero, List.set_cons_succ, i64_w, i32_w]; rfl)
                      refine pure_ (i := 41) (N := some 348) (v := ?_) (a' := ?_) (bq 53 4398046511103) rfl rfl (qn HT_) (fun _ _ _ h => h) (Or.inl ⟨by rfl, ?_⟩) ?_ ?_; rotate_left; focus (intro w'; go_simp; with_reducible rfl)
                      rotate_left; focus (simp only [Act.put, List.setIfInBounds_toArray, List.set_cons_zero, List.set_cons_succ, i64_w, i32_w]; rfl)
                      refine pure_ (i := 42) (N := some 349) (v := ?_) (a' := ?_) (bq 53 8796093022207) rfl rfl (qn HT_) (fun _ _ _ h => h) (Or.inl ⟨by rfl, ?_⟩) ?_ ?_; rotate_left; focus (intro w'; go_simp; with_reducible rfl)
                      rotate_left; focus (simp only [Act.put, List.setIfInBounds_toArray, List.set_cons_zero, List.set_cons_succ, i64_w, i32_w]; rfl)
                      refine pure_ (i := 43) (N := some 350) (v := ?_) (a' := ?_) (bq 53 17592186044415) rfl rfl (qn HT_) (fun _ _ _ h => h) (Or.inl ⟨by rfl, ?_⟩) ?_ ?_; rotate_left; focus (intro w'; go_simp; with_reducible rfl)
                      rotate_left; focus (simp only [Act.put, List.setIfInBounds_toArray, List.set_cons_zero, List.set_cons_succ, i64_w, i32_w]; rfl)
                      refine pure_ (i := 44) (N := some 351) (v := ?_) (a' := ?_) (bq 53 35184372088831) rfl rfl (qn HT_) (fun _ _ _ h => h) (Or.inl ⟨by rfl, ?_⟩) ?_ ?_; rotate_left; focus (intro w'; go_simp; with_reducible rfl)
                      rotate_left; focus (simp only [Act.put, List.setIfInBounds_toArray, List.set_cons_zero, List.set_cons_succ, i64_w, i32_w]; rfl)
                      refine pure_ (i := 45) (N := some 352) (v := ?_) (a' := ?_) (bq 53 70368744177663) rfl rfl (qn HT_) (fun _ _ _ h => h) (Or.inl ⟨by rfl, ?_⟩) ?_ ?_; rotate_left; focus (intro w'; go_simp; with_reducible rfl)
                      rotate_left; focus (simp only [Act.put, List.setIfInBounds_toArray, List.set_cons_zero, List.set_cons_succ, i64_w, i32_w]; rfl)
                      refine take_ (i := 46) (N := some 353) (v := ?_) (a' := ?_) (bq 53 140737488355327) rfl rfl (take_ofW HT_.out HW_.out (by kernel_rfl)) (fun _ _ _ h => h) (Or.inl ⟨by rfl, ?_⟩) hHeld ?_ ?_
                      rotate_left
                      ·rintro w' ⟨s0, s1, s2⟩
                       go_simp
                       with_reducible rfl
                      rotate_left
                      ·simp only [Act.put, List.setIfInBounds_toArray, List.set_cons_zero, List.set_cons_succ, i64_w, i32_w]
                       rfl
                      refine take_ (i := 48) (N := some 355) (v := ?_) (a' := ?_) (bq 53 422212465065983) rfl rfl (take_ofW HT_.out HW_.out (by kernel_rfl)) (fun _ _ _ h => h) (Or.inl ⟨by rfl, ?_⟩) hHeld ?_ ?_
                      rotate_left
                      ·rintro w' ⟨s0, s1, s2⟩
                       go_simp
                       with_reducible rfl
                      rotate_left
                      ·simp only [Act.put, List.setIfInBounds_toArray, List.set_cons_zero, List.set_cons_succ, i64_w, i32_w]
                       rfl
                      refine one_ (i := 47) (N := some 354) (bq 53 562949953421311) rfl rfl (qo HT_) (by decide) (fun K hK => ?_)
                      refine goes_ Try.func43 (by kernel_rfl) rfl #[.agg #[.int .i64 t671, .int .i64 t672, .int .i64 t673]] (by rfl) rfl rfl qA ?_
                      with_reducible refine (impl_IsJournalRecord.calls t671 t672 t673 t677 _ A128.out).mono ?_
                      rintro e w154 ⟨rfl, hb⟩
                      refine ⟨_, rfl, ?_⟩
                      have n0_ := Aside0.mk (Kd.R_below (qR HO640) hb)
                      have n1_ := Aside0.mk (Kd.R_below (qR HO652) hb)
                      have n2_ := Aside0.mk (Kd.R_below (qR HO656) hb)
                      have n3_ := Aside0.mk (Kd.R_below (qR HO660) hb)
                      have n4_ := Aside0.mk (Kd.R_below (qR HO665) hb)
                      have n5_ := Aside0.mk (Kd.R_below (qR HO670) hb)
                      have n6_ := Aside0.mk (blk_below (g := gb649) (o := .cells #[.int .i64 t645, .int .i64 t646, .int .i64 t647] 61 (0, 0)) (qK BK649) hb)
                      have n7_ := Aside0.mk (blk_below (g := gb674) (o := .cells #[.int .i64 t671, .int .i64 t672, .int .i64 t673] 61 (0, 0)) (qK BK674) hb)
                      have n8_ := Aside0.mk (below_step (qU HB) hb)
                      clear HO640
                      clear HO652
                      clear HO656
                      clear HO660
                      clear HO665
                      clear HO670
                      clear BK649
                      clear BK674
                      clear HB
                      have HO640 := n0_
                      have HO652 := n1_
                      have HO656 := n2_
                      have HO660 := n3_
                      have HO665 := n4_
                      have HO670 := n5_
                      have BK649 := n6_
                      have BK674 := n7_
                      have HB := n8_
                      clear n0_ n1_ n2_ n3_ n4_ n5_ n6_ n7_ n8_
                      (try clear hb)
                      (try clear hb2)
                      (try clear hk)
                      (try clear hi)
                      refine hK.out _ _ ⟨(blk_cell BK674.out 0).trans rfl, (blk_cell BK674.out 1).trans rfl, (blk_cell BK674.out 2).trans rfl⟩ (fun hHeld => ?_)
                      clear hK K
                      refine norm_ (a' := ?_) ?_ ?_
                      rotate_left
                      ·show Act.put _ (some 354) _ = _
                       simp only [Act.put, List.setIfInBounds_toArray, List.set_cons_zero, List.set_cons_succ, i64_w, i32_w]
                       rfl
                      refine one_ (i := 49) (N := some 356) (bq 53 1125899906842623) rfl rfl (qo HT_) (by decide) (fun K hK => ?_)
                      refine goes_ Try.func44 (by kernel_rfl) rfl #[.agg #[.int .i64 t671, .int .i64 t672, .int .i64 t673]] (by rfl) rfl rfl qA ?_
                      with_reducible refine (spec_IsJournalRecord.calls t671 t672 t673 t678 _ A129.out).mono ?_
                      rintro e w155 ⟨rfl, hb⟩
                      refine ⟨_, rfl, ?_⟩
                      have n0_ := Aside0.mk (Kd.R_below (qR HO640) hb)
                      have n1_ := Aside0.mk (Kd.R_below (qR HO652) hb)
                      have n2_ := Aside0.mk (Kd.R_below (qR HO656) hb)
                      have n3_ := Aside0.mk (Kd.R_below (qR HO660) hb)
                      have n4_ := Aside0.mk (Kd.R_below (qR HO665) hb)
                      have n5_ := Aside0.mk (Kd.R_below (qR HO670) hb)
                      have n6_ := Aside0.mk (blk_below (g := gb649) (o := .cells #[.int .i64 t645, .int .i64 t646, .int .i64 t647] 61 (0, 0)) (qK BK649) hb)
                      have n7_ := Aside0.mk (blk_below (g := gb674) (o := .cells #[.int .i64 t671, .int .i64 t672, .int .i64 t673] 61 (0, 0)) (qK BK674) hb)
                      have n8_ := Aside0.mk (below_step (qU HB) hb)
                      clear HO640
                      clear HO652
                      clear HO656
                      clear HO660
                      clear HO665
                      clear HO670
                      clear BK649
                      clear BK674
                      clear HB
                      have HO640 := n0_
                      have HO652 := n1_
                      have HO656 := n2_
                      have HO660 := n3_
                      have HO665 := n4_
                      have HO670 := n5_
                      have BK649 := n6_
                      have BK674 := n7_
                      have HB := n8_
                      clear n0_ n1_ n2_ n3_ n4_ n5_ n6_ n7_ n8_
                      (try clear hb)
                      (try clear hb2)
                      (try clear hk)
                      (try clear hi)
                      refine hK.out _ _ ⟨(blk_cell BK674.out 0).trans rfl, (blk_cell BK674.out 1).trans rfl, (blk_cell BK674.out 2).trans rfl⟩ (fun hHeld => ?_)
                      clear hK K
                      refine norm_ (a' := ?_) ?_ ?_
                      rotate_left
                      ·show Act.put _ (some 356) _ = _
                       simp only [Act.put, List.setIfInBounds_toArray, List.set_cons_zero, List.set_cons_succ, i64_w, i32_w]
                       rfl
                      refine pure_ (i := 50) (N := some 357) (v := ?_) (a' := ?_) (bq 53 2251799813685247) rfl rfl (qn HT_) (fun _ _ _ h => h) (Or.inl ⟨by rfl, ?_⟩) ?_ ?_; rotate_left; focus (intro w'; go_simp; with_reducible rfl)
                      rotate_left; focus (simp only [Act.put, List.setIfInBounds_toArray, List.set_cons_zero, List.set_cons_succ, i64_w, i32_w]; rfl)
                      refine pure_ (i := 51) (N := some 358) (v := ?_) (a' := ?_) (bq 53 4503599627370495) rfl rfl (qn HT_) (fun _ _ _ h => h) (Or.inl ⟨by rfl, ?_⟩) ?_ ?_; rotate_left; focus (intro w'; go_simp; with_reducible rfl)
                      rotate_left; focus (simp only [Act.put, List.setIfInBounds_toArray, List.set_cons_zero, List.set_cons_succ, i64_w, i32_w]; rfl)
                      refine pure_ (i := 52) (N := some 4) (v := ?_) (a' := ?_) (bq 53 9007199254740991) rfl rfl (qn HT_) (fun _ _ _ h => h) (Or.inl ⟨by rfl, ?_⟩) ?_ ?_; rotate_left; focus (intro w'; go_simp; with_reducible rfl)
                      rotate_left; focus (simp only [Act.put, List.setIfInBounds_toArray, List.set_cons_zero, List.set_cons_succ, i64_w, i32_w]; rfl)
                      refine done_ (done_of HT_.out (by kernel_rfl)) ?_
                      try go_wp2
                      go_ret
                      exact ⟨qe, qU HB⟩
                     ·rw [if_neg c127] at H
                      have c127b0 : (t662 == t667) = false := beq_eq_false_iff_ne.mpr c127
                      have c127b1 : (t662 != t667) = true := bne_iff_ne.mpr c127
                      exact absurd H (by simp)
                    ·replace c126 := Bool.eq_false_iff.mpr c126
                     subst c126
                     rw [if_neg (show ¬ (false = true) by decide)] at H
                     exact absurd H (by simp)
                   ·rw [if_neg c124] at H
                    have c124b0 : (t663 == t668) = false := by simpa using c124
                    (try (have c124b1 : decide (t663 = t668) = false := by simpa using c124))
                    (try (have c124b2 : (t663 == t668) = false := by simpa using c124))
                    (try (have c124b3 : ¬ (t663 = t668) := by simpa using c124))
                    clear c124
                    exact absurd H (by simp)
                  ·replace c123 := Bool.eq_false_iff.mpr c123
                   subst c123
                   rw [if_neg (show ¬ (false = true) by decide)] at H
                   exact absurd H (by simp)
                 ·rw [if_neg c121] at H
                  have c121b0 : (t653 == t657) = false := by simpa using c121
                  (try (have c121b1 : decide (t653 = t657) = false := by simpa using c121))
                  (try (have c121b2 : (t653 == t657) = false := by simpa using c121))
                  (try (have c121b3 : ¬ (t653 = t657) := by simpa using c121))
                  clear c121
                  exact absurd H (by simp)
                ·rw [if_neg c120] at H
                 have c120b0 : decide (t643 ≤ 8) = false := decide_eq_false c120
                 clear c120
                 exact absurd H (by simp)
               ·rw [if_neg c119] at H
                have c119b0 : decide (0 ≤ t643) = false := decide_eq_false c119
                clear c119
                exact absurd H (by simp)
              ·replace c118 := Bool.eq_false_iff.mpr c118
               subst c118
               rw [if_neg (show ¬ (false = true) by decide)] at H
               by_cases c156 : (t653 == t657) = true
               ·rw [if_pos c156] at H
                have c156b0 : (t653 == t657) = true := c156
                (try (have c156b1 : decide (t653 = t657) = true := by simpa using c156))
                (try (have c156b2 : (t653 == t657) = true := by simpa using c156))
                clear c156
                replace H := Option.bind_eq_some_iff.mp H
                obtain ⟨t679, A1570, H⟩ := H
                replace H : (if t679 = true then (if (t663 == t668) = true then ((laws_pSameRecords.f kj57 t661 t666).bind fun t680 => (if t680 = true then (if t662 = t667 then ((impl_IsJournalRecord.f t671 t672 t673).bind fun t681 => ((spec_IsJournalRecord.f t671 t672 t673).bind fun t682 => (some (t681 == t682)))) else (some false)) else (some false))) else (some false)) else (some false)) = some true := H
                have A157 := Aside0.mk A1570
                clear A1570
                by_cases c158 : t679 = true
                ·subst c158
                 rw [if_pos rfl] at H
                 by_cases c159 : (t663 == t668) = true
                 ·rw [if_pos c159] at H
                  have c159b0 : (t663 == t668) = true := c159
                  (try (have c159b1 : decide (t663 = t668) = true := by simpa using c159))
                  (try (have c159b2 : (t663 == t668) = true := by simpa using c159))
                  clear c159
                  replace H := Option.bind_eq_some_iff.mp H
                  obtain ⟨t680, A1600, H⟩ := H
                  replace H : (if t680 = true then (if t662 = t667 then ((impl_IsJournalRecord.f t671 t672 t673).bind fun t681 => ((spec_IsJournalRecord.f t671 t672 t673).bind fun t682 => (some (t681 == t682)))) else (some false)) else (some false)) = some true := H
                  have A160 := Aside0.mk A1600
                  clear A1600
                  by_cases c161 : t680 = true
                  ·subst c161
                   rw [if_pos rfl] at H
                   by_cases c162 : t662 = t667
                   ·rw [if_pos c162] at H
                    have c162b0 : (t662 == t667) = true := beq_iff_eq.mpr c162
                    have c162b1 : (t662 != t667) = false := bne_eq_false_iff_eq.mpr c162
                    clear c162
                    replace H := Option.bind_eq_some_iff.mp H
                    obtain ⟨t681, A1630, H⟩ := H
                    replace H : ((spec_IsJournalRecord.f t671 t672 t673).bind fun t682 => (some (t681 == t682))) = some true := H
                    have A163 := Aside0.mk A1630
                    clear A1630
                    replace H := Option.bind_eq_some_iff.mp H
                    obtain ⟨t682, A1640, H⟩ := H
                    replace H : (some (t681 == t682)) = some true := H
                    have A164 := Aside0.mk A1640
                    clear A1640
                    have HRT := Option.some.inj H
                    clear H
                    try go_wp2_with (first | ((with_reducible refine gate_callee (f := 35) rfl ?_); refine goesL_ (some 259) rfl rfl Try.func35 (by kernel_rfl) rfl #[.slice A1 l1.length c1] rfl qA ?_; (with_reducible refine (spec_DrawLostAfterCut.calls kj57 _ _ l1 t637 t638 _ ?side1 ?side2 A106.out).mono ?_); (case side1 => exact uC (Kd.C_below HR1.out HB.out)); (case side2 => exact HC1.out); rintro e w165 ⟨v639, rfl, ho0, hb⟩; refine ⟨_, rfl, ?_⟩; have n0_ := Aside0.mk (Kd.R_lower ho0 (below_size (qB HB))); have n1_ := Aside0.mk (below_step (qB HB) hb); clear HB; have HO640 := n0_; have HB := n1_; clear n0_ n1_; (try clear hb); (try clear hb2); (try clear hk); (try clear hi); (try clear ho0); obtain ⟨Ao166, co166, eo166⟩ := Kd.R_slice HO640.out; subst eo166) | ((with_reducible refine gate_callee (f := 36) rfl ?_); refine goesL_ (some 265) rfl rfl Try.func36 (by kernel_rfl) rfl #[.slice Ao166 t637.length co166, .int .i64 t638] rfl qA ?_; (with_reducible refine (impl_LostAfterCut.calls kj57 _ _ t637 t638 t641 false _ ?side1 ?side2 A107.out).mono ?_); (case side1 => exact uC (Kd.R_reads' HO640.out).2.2); (case side2 => exact (Kd.R_reads' HO640.out).2.1); rintro e w167 ⟨rfl, hb⟩; refine ⟨_, rfl, ?_⟩; have n0_ := Aside0.mk (Kd.R_below (qR HO640) hb); have n1_ := Aside0.mk (below_step (qB HB) hb); clear HO640; clear HB; have HO640 := n0_; have HB := n1_; clear n0_ n1_; (try clear hb); (try clear hb2); (try clear hk); (try clear hi)) | ((with_reducible refine gate_callee (f := 37) rfl ?_); refine goesL_ (some 271) rfl rfl Try.func37 (by kernel_rfl) rfl #[.slice Ao166 t637.length co166, .int .i64 t638] rfl qA ?_; (with_reducible refine (spec_LostAfterCut.calls kj57 _ _ t637 t638 t643 t644 _ ?side1 ?side2 A108.out).mono ?_); (case side1 => exact uC (Kd.R_reads' HO640.out).2.2); (case side2 => exact (Kd.R_reads' HO640.out).2.1); rintro e w168 ⟨rfl, hb⟩; refine ⟨_, rfl, ?_⟩; have n0_ := Aside0.mk (Kd.R_below (qR HO640) hb); have n1_ := Aside0.mk (below_step (qB HB) hb); clear HO640; clear HB; have HO640 := n0_; have HB := n1_; clear n0_ n1_; (try clear hb); (try clear hb2); (try clear hk); (try clear hi)) | ((with_reducible refine gate_callee (f := 38) rfl ?_); refine goesL_ (some 276) rfl rfl Try.func38 (by kernel_rfl) rfl #[.slice A1 l1.length c1] rfl qA ?_; (with_reducible refine (spec_DrawRecordNumbers.calls kj57 _ _ l1 t645 t646 t647 t648 _ ?side1 ?side2 A109.out).mono ?_); (case side1 => exact uC (Kd.C_below HR1.out HB.out)); (case side2 => exact HC1.out); rintro e w169 ⟨rfl, hb⟩; refine ⟨_, rfl, ?_⟩; have n0_ := Aside0.mk (Kd.R_below (qR HO640) hb); have n1_ := Aside0.mk (below_step (qB HB) hb); clear HO640; clear HB; have HO640 := n0_; have HB := n1_; clear n0_ n1_; (try clear hb); (try clear hb2); (try clear hk); (try clear hi)) | ((with_reducible refine gate_dst (N := 44) rfl ?_); (try (refine gate_guard (by rfl) ?_; dsimp only)); refine box_event ?hg (N := 44) ?hd (cs := #[.int .i64 0, .int .i64 0, .int .i64 0]) (t := 61) ?hr ?_; (case hd => rfl); (case hg => rfl); (case hr => first | (go_simp; done) | (go_simp; rfl)); intro gb649 hg w170 hbox hb; have n0_ := Aside0.mk (Kd.R_below (Kd.R_elderB (qR HO640) gb649 (Nat.le_of_eq hg.symm)) hb); have n1_ := Aside0.mk (below_step (qB HB) hb); have n2_ := Aside0.mk (hbox); have n3_ := Aside0.mk ((by rw [hg]; exact (below_size (qB HB)) : w.heap.size ≤ gb649)); have n4_ := Aside0.mk ((by rw [hg]; exact (below_size (qB HB)) : w.heap.size ≤ gb649)); clear HO640; clear HB; have HO640 := n0_; have HB := n1_; have BK649 := n2_; have GW649 := n3_; have GE649 := n4_; clear n0_ n1_ n2_ n3_ n4_; clear hb hbox hg; have hcz171_0 : w170.cell? ⟨gb649, 0, none⟩ = some (.int .i64 0) := (blk_cell BK649.out 0).trans rfl; have hcz171_1 : w170.cell? ⟨gb649, 1, none⟩ = some (.int .i64 0) := (blk_cell BK649.out 1).trans rfl; have hcz171_2 : w170.cell? ⟨gb649, 2, none⟩ = some (.int .i64 0) := (blk_cell BK649.out 2).trans rfl; have hfz171_0 := blk_frozen BK649.out 0; have hfz171_1 := blk_frozen BK649.out 1; have hfz171_2 := blk_frozen BK649.out 2) | ((with_reducible refine gate_callee (f := 39) rfl ?_); refine goesL_ (some 282) rfl rfl Try.func39 (by kernel_rfl) rfl #[.agg #[.int .i64 t645, .int .i64 t646, .int .i64 t647], .int .i64 t648] rfl qA ?_; (with_reducible refine (impl_RecordNumbers.calls t645 t646 t647 t648 t650 t653 _ A110.out).mono ?_); rintro e w172 ⟨v651, rfl, ho0, hb⟩; refine ⟨_, rfl, ?_⟩; have n0_ := Aside0.mk (Kd.R_below (by exact uR ((Kd.R_mono (Kd.R_far (p := ⟨gb649, 2, none⟩) (Kd.R_far (p := ⟨gb649, 1, none⟩) (Kd.R_far (p := ⟨gb649, 0, none⟩) (Kd.R_mono HO640.out (fun k_ hk => (⟨hk, hk.2⟩ : _ ∧ k_ ≠ gb649))) (fun _ hk => hk.2) (.int .i64 t645)) (fun _ hk => hk.2) (.int .i64 t646)) (fun _ hk => hk.2) (.int .i64 t647)) (fun _ h_ => h_.1)))) hb); have n1_ := Aside0.mk (Kd.R_lower ho0 (below_size (qT HB GE649))); have n2_ := Aside0.mk (blk_below (g := gb649) (o := .cells #[.int .i64 t645, .int .i64 t646, .int .i64 t647] 61 (0, 0)) (by (with_reducible repeat (first | refine blk_drewN ?_ _ | refine blk_drew ?_ | refine blk_alloc ?_ _)); refine blk_put (cs := #[.int .i64 t645, .int .i64 t646, .int .i64 0]) ?_ 2 _ rfl; (with_reducible repeat (first | refine blk_drewN ?_ _ | refine blk_drew ?_ | refine blk_alloc ?_ _)); refine blk_put (cs := #[.int .i64 t645, .int .i64 0, .int .i64 0]) ?_ 1 _ rfl; (with_reducible repeat (first | refine blk_drewN ?_ _ | refine blk_drew ?_ | refine blk_alloc ?_ _)); refine blk_put (cs := #[.int .i64 0, .int .i64 0, .int .i64 0]) ?_ 0 _ rfl; (with_reducible repeat (first | refine blk_drewN ?_ _ | refine blk_drew ?_ | refine blk_alloc ?_ _)); exact BK649.out) hb); have n3_ := Aside0.mk (below_step (qT HB GE649) hb); clear HO640; clear BK649; clear HB; have HO640 := n0_; have HO652 := n1_; have BK649 := n2_; have HB := n3_; clear n0_ n1_ n2_ n3_; (try clear hb); (try clear hb2); (try clear hk); (try clear hi); (try clear ho0); have hcz173_0 : w172.cell? ⟨gb649, 0, none⟩ = some (.int .i64 t645) := (blk_cell BK649.out 0).trans rfl; have hcz173_1 : w172.cell? ⟨gb649, 1, none⟩ = some (.int .i64 t646) := (blk_cell BK649.out 1).trans rfl; have hcz173_2 : w172.cell? ⟨gb649, 2, none⟩ = some (.int .i64 t647) := (blk_cell BK649.out 2).trans rfl; have hfz173_0 := blk_frozen BK649.out 0; have hfz173_1 := blk_frozen BK649.out 1; have hfz173_2 := blk_frozen BK649.out 2) | ((with_reducible refine gate_callee (f := 40) rfl ?_); refine goesL_ (some 288) rfl rfl Try.func40 (by kernel_rfl) rfl #[.agg #[.int .i64 t645, .int .i64 t646, .int .i64 t647], .int .i64 t648] rfl qA ?_; (with_reducible refine (spec_RecordNumbers.calls t645 t646 t647 t648 t654 t657 _ A111.out).mono ?_); rintro e w174 ⟨v655, rfl, ho0, hb⟩; refine ⟨_, rfl, ?_⟩; have n0_ := Aside0.mk (Kd.R_below (qR HO640) hb); have n1_ := Aside0.mk (Kd.R_elder' (qR HO652) (Kd.R_base ho0) hb); have n2_ := Aside0.mk (Kd.R_lower (Kd.R_new' ho0 (Kd.R_lt (qR HO652))) (below_size (qT HB GE649))); have n3_ := Aside0.mk (blk_below (g := gb649) (o := .cells #[.int .i64 t645, .int .i64 t646, .int .i64 t647] 61 (0, 0)) (qK BK649) hb); have n4_ := Aside0.mk (below_step (qT HB GE649) hb); clear HO640; clear HO652; clear BK649; clear HB; have HO640 := n0_; have HO652 := n1_; have HO656 := n2_; have BK649 := n3_; have HB := n4_; clear n0_ n1_ n2_ n3_ n4_; (try clear hb); (try clear hb2); (try clear hk); (try clear hi); (try clear ho0)) | ((with_reducible refine gate_callee (f := 41) rfl ?_); refine goesL_ (some 292) rfl rfl Try.func41 (by kernel_rfl) rfl #[.slice A1 l1.length c1] rfl qA ?_; (with_reducible refine (spec_DrawRecoverRecords.calls kj57 _ _ l1 t658 _ ?side1 ?side2 A112.out).mono ?_); (case side1 => exact uC (Kd.C_below HR1.out HB.out)); (case side2 => exact HC1.out); rintro e w175 ⟨v659, rfl, ho0, hb⟩; refine ⟨_, rfl, ?_⟩; have n0_ := Aside0.mk (Kd.R_below (qR HO640) hb); have n1_ := Aside0.mk (Kd.R_elder' (qR HO652) (Kd.R_base ho0) hb); have n2_ := Aside0.mk (Kd.R_elder' (qR HO656) (Kd.R_base ho0) hb); have n3_ := Aside0.mk (Kd.R_lower (Kd.R_new' (Kd.R_new' ho0 (Kd.R_lt (qR HO652))) (Kd.R_lt (qR HO656))) (below_size (qT HB GE649))); have n4_ := Aside0.mk (blk_below (g := gb649) (o := .cells #[.int .i64 t645, .int .i64 t646, .int .i64 t647] 61 (0, 0)) (qK BK649) hb); have n5_ := Aside0.mk (below_step (qT HB GE649) hb); clear HO640; clear HO652; clear HO656; clear BK649; clear HB; have HO640 := n0_; have HO652 := n1_; have HO656 := n2_; have HO660 := n3_; have BK649 := n4_; have HB := n5_; clear n0_ n1_ n2_ n3_ n4_ n5_; (try clear hb); (try clear hb2); (try clear hk); (try clear hi); (try clear ho0); obtain ⟨Ao176, co176, eo176⟩ := Kd.R_slice HO660.out; subst eo176) | ((with_reducible refine gate_callee (f := 29) rfl ?_); refine goesL_ (some 295) rfl rfl Try.func29 (by kernel_rfl) rfl #[.slice Ao176 t658.length co176] rfl qA ?_; (with_reducible refine (impl_RecoverRecords.calls kj57 _ _ t658 t661 t662 t663 _ ?side1 ?side2 A113.out).mono ?_); (case side1 => exact uC (Kd.R_reads' HO660.out).2.2); (case side2 => exact (Kd.R_reads' HO660.out).2.1); rintro e w177 ⟨v664, rfl, ho0, hb⟩; refine ⟨_, rfl, ?_⟩; have n0_ := Aside0.mk (Kd.R_elder' (qR HO640) (Kd.R_base ho0) hb); have n1_ := Aside0.mk (Kd.R_below (qR HO652) hb); have n2_ := Aside0.mk (Kd.R_below (qR HO656) hb); have n3_ := Aside0.mk (Kd.R_below (qR HO660) hb); have n4_ := Aside0.mk (Kd.R_lower (Kd.R_newB (Kd.R_new' ho0 (Kd.R_lt (qR HO640))) (g := gb649) (o := .cells #[.int .i64 t645, .int .i64 t646, .int .i64 t647] 61 (0, 0)) (qK BK649)) (below_size (qT HB GE649))); have n5_ := Aside0.mk (blk_below (g := gb649) (o := .cells #[.int .i64 t645, .int .i64 t646, .int .i64 t647] 61 (0, 0)) (qK BK649) hb); have n6_ := Aside0.mk (below_step (qT HB GE649) hb); clear HO640; clear HO652; clear HO656; clear HO660; clear BK649; clear HB; have HO640 := n0_; have HO652 := n1_; have HO656 := n2_; have HO660 := n3_; have HO665 := n4_; have BK649 := n5_; have HB := n6_; clear n0_ n1_ n2_ n3_ n4_ n5_ n6_; (try clear hb); (try clear hb2); (try clear hk); (try clear hi); (try clear ho0)) | ((with_reducible refine gate_callee (f := 30) rfl ?_); refine goesL_ (some 301) rfl rfl Try.func30 (by kernel_rfl) rfl #[.slice Ao176 t658.length co176] rfl qA ?_; (with_reducible refine (spec_RecoverRecords.calls kj57 _ _ t658 t666 t667 t668 _ ?side1 ?side2 A114.out).mono ?_); (case side1 => exact uC (Kd.R_reads' HO660.out).2.2); (case side2 => exact (Kd.R_reads' HO660.out).2.1); rintro e w178 ⟨v669, rfl, ho0, hb⟩; refine ⟨_, rfl, ?_⟩; have n0_ := Aside0.mk (Kd.R_elder' (qR HO640) (Kd.R_base ho0) hb); have n1_ := Aside0.mk (Kd.R_below (qR HO652) hb); have n2_ := Aside0.mk (Kd.R_below (qR HO656) hb); have n3_ := Aside0.mk (Kd.R_below (qR HO660) hb); have n4_ := Aside0.mk (Kd.R_elder' (qR HO665) (Kd.R_base ho0) hb); have n5_ := Aside0.mk (Kd.R_lower (Kd.R_newB (Kd.R_new' (Kd.R_new' ho0 (Kd.R_lt (qR HO640))) (Kd.R_lt (qR HO665))) (g := gb649) (o := .cells #[.int .i64 t645, .int .i64 t646, .int .i64 t647] 61 (0, 0)) (qK BK649)) (below_size (qT HB GE649))); have n6_ := Aside0.mk (blk_below (g := gb649) (o := .cells #[.int .i64 t645, .int .i64 t646, .int .i64 t647] 61 (0, 0)) (qK BK649) hb); have n7_ := Aside0.mk (below_step (qT HB GE649) hb); clear HO640; clear HO652; clear HO656; clear HO660; clear HO665; clear BK649; clear HB; have HO640 := n0_; have HO652 := n1_; have HO656 := n2_; have HO660 := n3_; have HO665 := n4_; have HO670 := n5_; have BK649 := n6_; have HB := n7_; clear n0_ n1_ n2_ n3_ n4_ n5_ n6_ n7_; (try clear hb); (try clear hb2); (try clear hk); (try clear hi); (try clear ho0)) | ((with_reducible refine gate_callee (f := 42) rfl ?_); refine goesL_ (some 306) rfl rfl Try.func42 (by kernel_rfl) rfl #[.slice A1 l1.length c1] rfl qA ?_; (with_reducible refine (spec_DrawIsJournalRecord.calls kj57 _ _ l1 t671 t672 t673 _ ?side1 ?side2 A115.out).mono ?_); (case side1 => exact uC (Kd.C_below HR1.out HB.out)); (case side2 => exact HC1.out); rintro e w179 ⟨rfl, hb⟩; refine ⟨_, rfl, ?_⟩; have n0_ := Aside0.mk (Kd.R_below (qR HO640) hb); have n1_ := Aside0.mk (Kd.R_below (qR HO652) hb); have n2_ := Aside0.mk (Kd.R_below (qR HO656) hb); have n3_ := Aside0.mk (Kd.R_below (qR HO660) hb); have n4_ := Aside0.mk (Kd.R_below (qR HO665) hb); have n5_ := Aside0.mk (Kd.R_below (qR HO670) hb); have n6_ := Aside0.mk (blk_below (g := gb649) (o := .cells #[.int .i64 t645, .int .i64 t646, .int .i64 t647] 61 (0, 0)) (qK BK649) hb); have n7_ := Aside0.mk (below_step (qT HB GE649) hb); clear HO640; clear HO652; clear HO656; clear HO660; clear HO665; clear HO670; clear BK649; clear HB; have HO640 := n0_; have HO652 := n1_; have HO656 := n2_; have HO660 := n3_; have HO665 := n4_; have HO670 := n5_; have BK649 := n6_; have HB := n7_; clear n0_ n1_ n2_ n3_ n4_ n5_ n6_ n7_; (try clear hb); (try clear hb2); (try clear hk); (try clear hi)) | ((with_reducible refine gate_dst (N := 57) rfl ?_); (try (refine gate_guard (by rfl) ?_; dsimp only)); refine box_event ?hg (N := 57) ?hd (cs := #[.int .i64 0, .int .i64 0, .int .i64 0]) (t := 61) ?hr ?_; (case hd => rfl); (case hg => rfl); (case hr => first | (go_simp; done) | (go_simp; rfl)); intro gb674 hg w180 hbox hb; have n0_ := Aside0.mk (Kd.R_below (Kd.R_elderB (qR HO640) gb674 (Nat.le_of_eq hg.symm)) hb); have n1_ := Aside0.mk (Kd.R_below (qR HO652) hb); have n2_ := Aside0.mk (Kd.R_below (qR HO656) hb); have n3_ := Aside0.mk (Kd.R_below (qR HO660) hb); have n4_ := Aside0.mk (Kd.R_below (Kd.R_elderB (qR HO665) gb674 (Nat.le_of_eq hg.symm)) hb); have n5_ := Aside0.mk (Kd.R_below (Kd.R_elderB (qR HO670) gb674 (Nat.le_of_eq hg.symm)) hb); have n6_ := Aside0.mk (blk_below (g := gb649) (o := .cells #[.int .i64 t645, .int .i64 t646, .int .i64 t647] 61 (0, 0)) (qK BK649) hb); have n7_ := Aside0.mk (below_step (qT HB GE649) hb); have n8_ := Aside0.mk (hbox); have n9_ := Aside0.mk ((by rw [hg]; exact (below_size (qT HB GE649)) : w.heap.size ≤ gb674)); have n10_ := Aside0.mk ((by rw [hg]; exact (below_size (qT HB GE649)) : w.heap.size ≤ gb674)); have n11_ := Aside0.mk ((by rw [hg]; exact Nat.ne_of_lt (blk_lt (g := gb649) (o := .cells #[.int .i64 t645, .int .i64 t646, .int .i64 t647] 61 (0, 0)) (qK BK649)) : gb649 ≠ gb674)); have n12_ := Aside0.mk ((by rw [hg]; exact Nat.ne_of_gt (blk_lt (g := gb649) (o := .cells #[.int .i64 t645, .int .i64 t646, .int .i64 t647] 61 (0, 0)) (qK BK649)) : gb674 ≠ gb649)); clear HO640; clear HO652; clear HO656; clear HO660; clear HO665; clear HO670; clear BK649; clear HB; have HO640 := n0_; have HO652 := n1_; have HO656 := n2_; have HO660 := n3_; have HO665 := n4_; have HO670 := n5_; have BK649 := n6_; have HB := n7_; have BK674 := n8_; have GW674 := n9_; have GE674 := n10_; have NB649_674 := n11_; have NB674_649 := n12_; clear n0_ n1_ n2_ n3_ n4_ n5_ n6_ n7_ n8_ n9_ n10_ n11_ n12_; clear hb hbox hg; have hnb181 := NB674_649.out; have hnc181 := NB649_674.out; have hcz182_0 : w180.cell? ⟨gb674, 0, none⟩ = some (.int .i64 0) := (blk_cell BK674.out 0).trans rfl; have hcz182_1 : w180.cell? ⟨gb674, 1, none⟩ = some (.int .i64 0) := (blk_cell BK674.out 1).trans rfl; have hcz182_2 : w180.cell? ⟨gb674, 2, none⟩ = some (.int .i64 0) := (blk_cell BK674.out 2).trans rfl; have hfz182_0 := blk_frozen BK674.out 0; have hfz182_1 := blk_frozen BK674.out 1; have hfz182_2 := blk_frozen BK674.out 2))
                    have n0_ : Aside0 (Kd.R k61 61 (((w180.setCell ⟨gb674, 0, none⟩ (.int .i64 t671)).setCell ⟨gb674, 1, none⟩ (.int .i64 t672)).setCell ⟨gb674, 2, none⟩ (.int .i64 t673)) w.heap.size (fun k_ => some k_ ≠ (v664 : Value).ownBlock ∧ some k_ ≠ (v669 : Value).ownBlock ∧ k_ ≠ gb649 ∧ k_ ≠ gb674) (.slice Ao166 t637.length co166) t637) := ⟨by exact uR (Kd.R_mono (Kd.R_far (p := ⟨gb674, 2, none⟩) (Kd.R_far (p := ⟨gb674, 1, none⟩) (Kd.R_far (p := ⟨gb674, 0, none⟩) (Kd.R_mono HO640.out (fun k_ hk => (⟨hk, hk.2⟩ : _ ∧ k_ ≠ gb674))) (fun _ hk => hk.2) (.int .i64 t671)) (fun _ hk => hk.2) (.int .i64 t672)) (fun _ hk => hk.2) (.int .i64 t673)) (fun _ hk => ⟨hk.1.1.1.2, ⟨hk.1.1.2, ⟨hk.1.1.1.1.2, hk.1.2⟩⟩⟩))⟩
                    have n1_ : Aside0 (Kd.R (Kd.int .i64) 3 (((w180.setCell ⟨gb674, 0, none⟩ (.int .i64 t671)).setCell ⟨gb674, 1, none⟩ (.int .i64 t672)).setCell ⟨gb674, 2, none⟩ (.int .i64 t673)) w.heap.size (fun k_ => some k_ ≠ (v655 : Value).ownBlock ∧ some k_ ≠ (.slice Ao176 t658.length co176 : Value).ownBlock) v651 t650) := ⟨by exact uR (Kd.R_mono (Kd.R_far (p := ⟨gb674, 2, none⟩) (Kd.R_far (p := ⟨gb674, 1, none⟩) (Kd.R_far (p := ⟨gb674, 0, none⟩) (Kd.R_types HO652.out BK674.out (by decide)) (fun _ hk => hk.2) (.int .i64 t671)) (fun _ hk => hk.2) (.int .i64 t672)) (fun _ hk => hk.2) (.int .i64 t673)) (fun _ hk => ⟨hk.1.1.2, hk.1.2⟩))⟩
                    have n2_ : Aside0 (Kd.R (Kd.int .i64) 3 (((w180.setCell ⟨gb674, 0, none⟩ (.int .i64 t671)).setCell ⟨gb674, 1, none⟩ (.int .i64 t672)).setCell ⟨gb674, 2, none⟩ (.int .i64 t673)) w.heap.size (fun k_ => some k_ ≠ (v651 : Value).ownBlock ∧ some k_ ≠ (.slice Ao176 t658.length co176 : Value).ownBlock) v655 t654) := ⟨by exact uR (Kd.R_mono (Kd.R_far (p := ⟨gb674, 2, none⟩) (Kd.R_far (p := ⟨gb674, 1, none⟩) (Kd.R_far (p := ⟨gb674, 0, none⟩) (Kd.R_types HO656.out BK674.out (by decide)) (fun _ hk => hk.2) (.int .i64 t671)) (fun _ hk => hk.2) (.int .i64 t672)) (fun _ hk => hk.2) (.int .i64 t673)) (fun _ hk => ⟨hk.1.1.2, hk.1.2⟩))⟩
                    have n3_ : Aside0 (Kd.R (Kd.int .i64) 3 (((w180.setCell ⟨gb674, 0, none⟩ (.int .i64 t671)).setCell ⟨gb674, 1, none⟩ (.int .i64 t672)).setCell ⟨gb674, 2, none⟩ (.int .i64 t673)) w.heap.size (fun k_ => some k_ ≠ (v651 : Value).ownBlock ∧ some k_ ≠ (v655 : Value).ownBlock) (.slice Ao176 t658.length co176) t658) := ⟨by exact uR (Kd.R_mono (Kd.R_far (p := ⟨gb674, 2, none⟩) (Kd.R_far (p := ⟨gb674, 1, none⟩) (Kd.R_far (p := ⟨gb674, 0, none⟩) (Kd.R_types HO660.out BK674.out (by decide)) (fun _ hk => hk.2) (.int .i64 t671)) (fun _ hk => hk.2) (.int .i64 t672)) (fun _ hk => hk.2) (.int .i64 t673)) (fun _ hk => ⟨hk.1.1.2, hk.1.2⟩))⟩
                    have n4_ : Aside0 (Kd.R k61 61 (((w180.setCell ⟨gb674, 0, none⟩ (.int .i64 t671)).setCell ⟨gb674, 1, none⟩ (.int .i64 t672)).setCell ⟨gb674, 2, none⟩ (.int .i64 t673)) w.heap.size (fun k_ => some k_ ≠ (.slice Ao166 t637.length co166 : Value).ownBlock ∧ some k_ ≠ (v669 : Value).ownBlock ∧ k_ ≠ gb649 ∧ k_ ≠ gb674) v664 t661) := ⟨by exact uR (Kd.R_mono (Kd.R_far (p := ⟨gb674, 2, none⟩) (Kd.R_far (p := ⟨gb674, 1, none⟩) (Kd.R_far (p := ⟨gb674, 0, none⟩) (Kd.R_mono HO665.out (fun k_ hk => (⟨hk, hk.2⟩ : _ ∧ k_ ≠ gb674))) (fun _ hk => hk.2) (.int .i64 t671)) (fun _ hk => hk.2) (.int .i64 t672)) (fun _ hk => hk.2) (.int .i64 t673)) (fun _ hk => ⟨hk.1.1.1.1.2, ⟨hk.1.1.2, ⟨hk.1.1.1.2, hk.1.2⟩⟩⟩))⟩
                    have n5_ : Aside0 (Kd.R k61 61 (((w180.setCell ⟨gb674, 0, none⟩ (.int .i64 t671)).setCell ⟨gb674, 1, none⟩ (.int .i64 t672)).setCell ⟨gb674, 2, none⟩ (.int .i64 t673)) w.heap.size (fun k_ => some k_ ≠ (.slice Ao166 t637.length co166 : Value).ownBlock ∧ some k_ ≠ (v664 : Value).ownBlock ∧ k_ ≠ gb649 ∧ k_ ≠ gb674) v669 t666) := ⟨by exact uR (Kd.R_mono (Kd.R_far (p := ⟨gb674, 2, none⟩) (Kd.R_far (p := ⟨gb674, 1, none⟩) (Kd.R_far (p := ⟨gb674, 0, none⟩) (Kd.R_mono HO670.out (fun k_ hk => (⟨hk, hk.2⟩ : _ ∧ k_ ≠ gb674))) (fun _ hk => hk.2) (.int .i64 t671)) (fun _ hk => hk.2) (.int .i64 t672)) (fun _ hk => hk.2) (.int .i64 t673)) (fun _ hk => ⟨hk.1.1.1.1.2, ⟨hk.1.1.1.2, ⟨hk.1.1.2, hk.1.2⟩⟩⟩))⟩
                    have n6_ : Aside0 ((((w180.setCell ⟨gb674, 0, none⟩ (.int .i64 t671)).setCell ⟨gb674, 1, none⟩ (.int .i64 t672)).setCell ⟨gb674, 2, none⟩ (.int .i64 t673)).heap[gb649]? = some (.cells #[.int .i64 t645, .int .i64 t646, .int .i64 t647] 61 (0, 0))) := ⟨by (with_reducible repeat (first | refine blk_drewN ?_ _ | refine blk_drew ?_ | refine blk_alloc ?_ _)); refine blk_far ?_ NB649_674.out _; (with_reducible repeat (first | refine blk_drewN ?_ _ | refine blk_drew ?_ | refine blk_alloc ?_ _)); refine blk_far ?_ NB649_674.out _; (with_reducible repeat (first | refine blk_drewN ?_ _ | refine blk_drew ?_ | refine blk_alloc ?_ _)); refine blk_far ?_ NB649_674.out _; (with_reducible repeat (first | refine blk_drewN ?_ _ | refine blk_drew ?_ | refine blk_alloc ?_ _)); exact BK649.out⟩
                    have n7_ : Aside0 ((((w180.setCell ⟨gb674, 0, none⟩ (.int .i64 t671)).setCell ⟨gb674, 1, none⟩ (.int .i64 t672)).setCell ⟨gb674, 2, none⟩ (.int .i64 t673)).heap[gb674]? = some (.cells #[.int .i64 t671, .int .i64 t672, .int .i64 t673] 61 (0, 0))) := ⟨by (with_reducible repeat (first | refine blk_drewN ?_ _ | refine blk_drew ?_ | refine blk_alloc ?_ _)); refine blk_put (cs := #[.int .i64 t671, .int .i64 t672, .int .i64 0]) ?_ 2 _ rfl; (with_reducible repeat (first | refine blk_drewN ?_ _ | refine blk_drew ?_ | refine blk_alloc ?_ _)); refine blk_put (cs := #[.int .i64 t671, .int .i64 0, .int .i64 0]) ?_ 1 _ rfl; (with_reducible repeat (first | refine blk_drewN ?_ _ | refine blk_drew ?_ | refine blk_alloc ?_ _)); refine blk_put (cs := #[.int .i64 0, .int .i64 0, .int .i64 0]) ?_ 0 _ rfl; (with_reducible repeat (first | refine blk_drewN ?_ _ | refine blk_drew ?_ | refine blk_alloc ?_ _)); exact BK674.out⟩
                    have n8_ : Aside0 (Below w.heap.size w (((w180.setCell ⟨gb674, 0, none⟩ (.int .i64 t671)).setCell ⟨gb674, 1, none⟩ (.int .i64 t672)).setCell ⟨gb674, 2, none⟩ (.int .i64 t673))) := ⟨qU HB⟩
                    (try clear HO640)
                    (try clear HO652)
                    (try clear HO656)
                    (try clear HO660)
                    (try clear HO665)
                    (try clear HO670)
                    (try clear BK649)
                    (try clear BK674)
                    (try clear HB)
                    generalize (((w180.setCell ⟨gb674, 0, none⟩ (.int .i64 t671)).setCell ⟨gb674, 1, none⟩ (.int .i64 t672)).setCell ⟨gb674, 2, none⟩ (.int .i64 t673)) = w183 at n0_ n1_ n2_ n3_ n4_ n5_ n6_ n7_ n8_ ⊢
                    have HO640 := n0_
                    have HO652 := n1_
                    have HO656 := n2_
                    have HO660 := n3_
                    have HO665 := n4_
                    have HO670 := n5_
                    have BK649 := n6_
                    have BK674 := n7_
                    have HB := n8_
                    clear n0_ n1_ n2_ n3_ n4_ n5_ n6_ n7_ n8_
                    have n0_ := Aside0.mk (Kd.R_drew HO640.out)
                    have n1_ := Aside0.mk (Kd.R_drew HO652.out)
                    have n2_ := Aside0.mk (Kd.R_drew HO656.out)
                    have n3_ := Aside0.mk (Kd.R_drew HO660.out)
                    have n4_ := Aside0.mk (Kd.R_drew HO665.out)
                    have n5_ := Aside0.mk (Kd.R_drew HO670.out)
                    have n6_ := Aside0.mk (blk_drew BK649.out)
                    have n7_ := Aside0.mk (blk_drew BK674.out)
                    have n8_ := Aside0.mk (below_drew1 HB.out)
                    clear HO640
                    clear HO652
                    clear HO656
                    clear HO660
                    clear HO665
                    clear HO670
                    clear BK649
                    clear BK674
                    clear HB
                    have HO640 := n0_
                    have HO652 := n1_
                    have HO656 := n2_
                    have HO660 := n3_
                    have HO665 := n4_
                    have HO670 := n5_
                    have BK649 := n6_
                    have BK674 := n7_
                    have HB := n8_
                    clear n0_ n1_ n2_ n3_ n4_ n5_ n6_ n7_ n8_
                    obtain ⟨Ao185, co185, eo185⟩ := Kd.R_slice HO652.out
                    (first | subst eo185 | (injection eo185 with f1_ f2_ f3_; have f4_ := f1_.symm; have f5_ := f3_.symm; clear f1_ f2_ f3_; subst f4_; subst f5_))
                    obtain ⟨Ao186, co186, eo186⟩ := Kd.R_slice HO656.out
                    (first | subst eo186 | (injection eo186 with f1_ f2_ f3_; have f4_ := f1_.symm; have f5_ := f3_.symm; clear f1_ f2_ f3_; subst f4_; subst f5_))
                    refine start_ (n := 53) (S := fun w' => w'.cell? ⟨gb674, 0, none⟩ = some (.int .i64 t671) ∧ w'.cell? ⟨gb674, 1, none⟩ = some (.int .i64 t672) ∧ w'.cell? ⟨gb674, 2, none⟩ = some (.int .i64 t673)) (ds := []) (Array.replicate 53 false) (by kernel_rfl) rfl rfl ⟨(blk_cell BK674.out 0).trans rfl, (blk_cell BK674.out 1).trans rfl, (blk_cell BK674.out 2).trans rfl⟩ (fun hHeld => ?_); refine with_tabW laws_FnCuts.tab36 laws_FnCuts.bits36 (fun HT_ HW_ => ?_)
                    generalize w183.drew = w184 at HO640 HO652 HO656 HO660 HO665 HO670 BK649 BK674 HB hHeld ⊢
                    refine pure_ (i := 0) (N := some 307) (v := ?_) (a' := ?_) (bq 53 1) rfl rfl (qn HT_) (fun _ _ _ h => h) (Or.inl ⟨by rfl, ?_⟩) ?_ ?_; rotate_left; focus (intro w'; go_simp; with_reducible rfl)
                    rotate_left; focus (simp only [Act.put, List.setIfInBounds_toArray, List.set_cons_zero, List.set_cons_succ, i64_w, i32_w]; rfl)
                    refine pure_ (i := 1) (N := some 308) (v := ?_) (a' := ?_) (bq 53 3) rfl rfl (qn HT_) (fun _ _ _ h => h) (Or.inl ⟨by rfl, ?_⟩) ?_ ?_; rotate_left; focus (intro w'; go_simp; with_reducible rfl)
                    rotate_left; focus (simp only [Act.put, List.setIfInBounds_toArray, List.set_cons_zero, List.set_cons_succ, i64_w, i32_w]; rfl)
                    refine pure_ (i := 2) (N := some 309) (v := ?_) (a' := ?_) (bq 53 7) rfl rfl (qn HT_) (fun _ _ _ h => h) (Or.inl ⟨by rfl, ?_⟩) ?_ ?_; rotate_left; focus (intro w'; go_simp; with_reducible rfl)
                    rotate_left; focus (simp only [Act.put, List.setIfInBounds_toArray, List.set_cons_zero, List.set_cons_succ, i64_w, i32_w]; rfl)
                    refine pure_ (i := 3) (N := some 310) (v := ?_) (a' := ?_) (bq 53 15) rfl rfl (qn HT_) (fun _ _ _ h => h) (Or.inl ⟨by rfl, ?_⟩) ?_ ?_; rotate_left; focus (intro w'; go_simp; with_reducible rfl)
                    rotate_left; focus (simp only [Act.put, List.setIfInBounds_toArray, List.set_cons_zero, List.set_cons_succ, i64_w, i32_w]; rfl)
                    refine pure_ (i := 4) (N := some 311) (v := ?_) (a' := ?_) (bq 53 31) rfl rfl (qn HT_) (fun _ _ _ h => h) (Or.inl ⟨by rfl, ?_⟩) ?_ ?_; rotate_left; focus (intro w'; go_simp; with_reducible rfl)
                    rotate_left; focus (simp only [Act.put, List.setIfInBounds_toArray, List.set_cons_zero, List.set_cons_succ, i64_w, i32_w]; rfl)
                    refine pure_ (i := 5) (N := some 312) (v := ?_) (a' := ?_) (bq 53 63) rfl rfl (qn HT_) (fun _ _ _ h => h) (Or.inl ⟨by rfl, ?_⟩) ?_ ?_; rotate_left; focus (intro w'; go_simp; with_reducible rfl)
                    rotate_left; focus (simp only [Act.put, List.setIfInBounds_toArray, List.set_cons_zero, List.set_cons_succ, i64_w, i32_w]; rfl)
                    refine pure_ (i := 6) (N := some 313) (v := ?_) (a' := ?_) (bq 53 127) rfl rfl (qn HT_) (fun _ _ _ h => h) (Or.inl ⟨by rfl, ?_⟩) ?_ ?_; rotate_left; focus (intro w'; go_simp; with_reducible rfl)
                    rotate_left; focus (simp only [Act.put, List.setIfInBounds_toArray, List.set_cons_zero, List.set_cons_succ, i64_w, i32_w]; rfl)
                    refine pure_ (i := 7) (N := some 314) (v := ?_) (a' := ?_) (bq 53 255) rfl rfl (qn HT_) (fun _ _ _ h => h) (Or.inl ⟨by rfl, ?_⟩) ?_ ?_; rotate_left; focus (intro w'; go_simp; with_reducible rfl)
                    rotate_left; focus (simp only [Act.put, List.setIfInBounds_toArray, List.set_cons_zero, List.set_cons_succ, i64_w, i32_w]; rfl)
                    refine pure_ (i := 8) (N := some 315) (v := ?_) (a' := ?_) (bq 53 511) rfl rfl (qn HT_) (fun _ _ _ h => h) (Or.inl ⟨by rfl, ?_⟩) ?_ ?_; rotate_left; focus (intro w'; go_simp; with_reducible rfl)
                    rotate_left; focus (simp only [Act.put, List.setIfInBounds_toArray, List.set_cons_zero, List.set_cons_succ, i64_w, i32_w]; rfl)
                    refine pure_ (i := 9) (N := some 316) (v := ?_) (a' := ?_) (bq 53 1023) rfl rfl (qn HT_) (fun _ _ _ h => h) (Or.inl ⟨by rfl, ?_⟩) ?_ ?_; rotate_left; focus (intro w'; go_simp; with_reducible rfl)
                    rotate_left; focus (simp only [Act.put, List.setIfInBounds_toArray, List.set_cons_zero, List.set_cons_succ, i64_w, i32_w]; rfl)
                    refine pure_ (i := 10) (N := some 317) (v := ?_) (a' := ?_) (bq 53 2047) rfl rfl (qn HT_) (fun _ _ _ h => h) (Or.inl ⟨by rfl, ?_⟩) ?_ ?_; rotate_left; focus (intro w'; go_simp; with_reducible rfl)
                    rotate_left; focus (simp only [Act.put, List.setIfInBounds_toArray, List.set_cons_zero, List.set_cons_succ, i64_w, i32_w]; rfl)
                    refine pure_ (i := 11) (N := some 318) (v := ?_) (a' := ?_) (bq 53 4095) rfl rfl (qn HT_) (fun _ _ _ h => h) (Or.inl ⟨by rfl, ?_⟩) ?_ ?_; rotate_left; focus (intro w'; go_simp; with_reducible rfl)
                    rotate_left; focus (simp only [Act.put, List.setIfInBounds_toArray, List.set_cons_zero, List.set_cons_succ, i64_w, i32_w]; rfl)
                    refine pure_ (i := 12) (N := some 319) (v := undef) (a' := ?_) (bq 53 8191) rfl rfl (qn HT_) (fun _ _ _ h => h) (Or.inr ⟨by rfl, rfl⟩) ?_ ?_
                    rotate_left
                    ·simp only [Act.put, List.setIfInBounds_toArray, List.set_cons_zero, List.set_cons_succ, i64_w, i32_w]
                     rfl
                    refine pure_ (i := 13) (N := some 320) (v := undef) (a' := ?_) (bq 53 16383) rfl rfl (qn HT_) (fun _ _ _ h => h) (Or.inr ⟨by rfl, rfl⟩) ?_ ?_
                    rotate_left
                    ·simp only [Act.put, List.setIfInBounds_toArray, List.set_cons_zero, List.set_cons_succ, i64_w, i32_w]
                     rfl
                    refine pure_ (i := 14) (N := some 321) (v := undef) (a' := ?_) (bq 53 32767) rfl rfl (qn HT_) (fun _ _ _ h => h) (Or.inr ⟨by rfl, rfl⟩) ?_ ?_
                    rotate_left
                    ·simp only [Act.put, List.setIfInBounds_toArray, List.set_cons_zero, List.set_cons_succ, i64_w, i32_w]
                     rfl
                    refine pure_ (i := 15) (N := some 322) (v := undef) (a' := ?_) (bq 53 65535) rfl rfl (qn HT_) (fun _ _ _ h => h) (Or.inr ⟨by rfl, rfl⟩) ?_ ?_
                    rotate_left
                    ·simp only [Act.put, List.setIfInBounds_toArray, List.set_cons_zero, List.set_cons_succ, i64_w, i32_w]
                     rfl
                    refine pure_ (i := 16) (N := some 323) (v := undef) (a' := ?_) (bq 53 131071) rfl rfl (qn HT_) (fun _ _ _ h => h) (Or.inr ⟨by rfl, rfl⟩) ?_ ?_
                    rotate_left
                    ·simp only [Act.put, List.setIfInBounds_toArray, List.set_cons_zero, List.set_cons_succ, i64_w, i32_w]
                     rfl
                    refine pure_ (i := 17) (N := some 324) (v := undef) (a' := ?_) (bq 53 262143) rfl rfl (qn HT_) (fun _ _ _ h => h) (Or.inr ⟨by rfl, rfl⟩) ?_ ?_
                    rotate_left
                    ·simp only [Act.put, List.setIfInBounds_toArray, List.set_cons_zero, List.set_cons_succ, i64_w, i32_w]
                     rfl
                    refine pure_ (i := 18) (N := some 325) (v := ?_) (a' := ?_) (bq 53 524287) rfl rfl (qn HT_) (fun _ _ _ h => h) (Or.inl ⟨by rfl, ?_⟩) ?_ ?_; rotate_left; focus (intro w'; go_simp; with_reducible rfl)
                    rotate_left; focus (simp only [Act.put, List.setIfInBounds_toArray, List.set_cons_zero, List.set_cons_succ, i64_w, i32_w]; rfl)
                    refine pure_ (i := 19) (N := some 326) (v := ?_) (a' := ?_) (bq 53 1048575) rfl rfl (qn HT_) (fun _ _ _ h => h) (Or.inl ⟨by rfl, ?_⟩) ?_ ?_; rotate_left; focus (intro w'; go_simp; with_reducible rfl)
                    rotate_left; focus (simp only [Act.put, List.setIfInBounds_toArray, List.set_cons_zero, List.set_cons_succ, i64_w, i32_w]; rfl)
                    refine pure_ (i := 20) (N := some 327) (v := ?_) (a' := ?_) (bq 53 2097151) rfl rfl (qn HT_) (fun _ _ _ h => h) (Or.inl ⟨by rfl, ?_⟩) ?_ ?_; rotate_left; focus (intro w'; go_simp; with_reducible rfl)
                    rotate_left; focus (simp only [Act.put, List.setIfInBounds_toArray, List.set_cons_zero, List.set_cons_succ, i64_w, i32_w]; rfl)
                    refine pure_ (i := 21) (N := some 328) (v := ?_) (a' := ?_) (bq 53 4194303) rfl rfl (qn HT_) (fun _ _ _ h => h) (Or.inl ⟨by rfl, ?_⟩) ?_ ?_; rotate_left; focus (intro w'; go_simp; with_reducible rfl)
                    rotate_left; focus (simp only [Act.put, List.setIfInBounds_toArray, List.set_cons_zero, List.set_cons_succ, i64_w, i32_w]; rfl)
                    refine pure_ (i := 22) (N := some 329) (v := ?_) (a' := ?_) (bq 53 8388607) rfl rfl (qn HT_) (fun _ _ _ h => h) (Or.inl ⟨by rfl, ?_⟩) ?_ ?_; rotate_left; focus (intro w'; go_simp; with_reducible rfl)
                    rotate_left; focus (simp only [Act.put, List.setIfInBounds_toArray, List.set_cons_zero, List.set_cons_succ, i64_w, i32_w]; rfl)
                    refine pure_ (i := 23) (N := some 330) (v := ?_) (a' := ?_) (bq 53 16777215) rfl rfl (qn HT_) (fun _ _ _ h => h) (Or.inl ⟨by rfl, ?_⟩) ?_ ?_; rotate_left; focus (intro w'; go_simp; with_reducible rfl)
                    rotate_left; focus (simp only [Act.put, List.setIfInBounds_toArray, List.set_cons_zero, List.set_cons_succ, i64_w, i32_w]; rfl)
                    refine pure_ (i := 24) (N := some 331) (v := ?_) (a' := ?_) (bq 53 33554431) rfl rfl (qn HT_) (fun _ _ _ h => h) (Or.inl ⟨by rfl, ?_⟩) ?_ ?_; rotate_left; focus (intro w'; go_simp; with_reducible rfl)
                    rotate_left; focus (simp only [Act.put, List.setIfInBounds_toArray, List.set_cons_zero, List.set_cons_succ, i64_w, i32_w]; rfl)
                    refine pure_ (i := 25) (N := some 332) (v := ?_) (a' := ?_) (bq 53 67108863) rfl rfl (qn HT_) (fun _ _ _ h => h) (Or.inl ⟨by rfl, ?_⟩) ?_ ?_; rotate_left; focus (intro w'; go_simp; with_reducible rfl)
                    rotate_left; focus (simp only [Act.put, List.setIfInBounds_toArray, List.set_cons_zero, List.set_cons_succ, i64_w, i32_w]; rfl)
                    refine pure_ (i := 26) (N := some 333) (v := ?_) (a' := ?_) (bq 53 134217727) rfl rfl (qn HT_) (fun _ _ _ h => h) (Or.inl ⟨by rfl, ?_⟩) ?_ ?_; rotate_left; focus (intro w'; go_simp; with_reducible rfl)
                    rotate_left; focus (simp only [Act.put, List.setIfInBounds_toArray, List.set_cons_zero, List.set_cons_succ, i64_w, i32_w]; rfl)
                    refine pure_ (i := 27) (N := some 334) (v := ?_) (a' := ?_) (bq 53 268435455) rfl rfl (qn HT_) (fun _ _ _ h => h) (Or.inl ⟨by rfl, ?_⟩) ?_ ?_; rotate_left; focus (intro w'; go_simp; with_reducible rfl)
                    rotate_left; focus (simp only [Act.put, List.setIfInBounds_toArray, List.set_cons_zero, List.set_cons_succ, i64_w, i32_w]; rfl)
                    refine one_ (i := 28) (N := some 335) (bq 53 536870911) rfl rfl (qo HT_) (by decide) (fun K hK => ?_)
                    refine goes_ Try.func28 (by kernel_rfl) rfl #[.slice Ao185 t650.length co185, .slice Ao186 t654.length co186] (by rfl) rfl rfl qA ?_
                    with_reducible refine (laws_sameInts.calls kj57 _ _ t650 _ _ t654 true _ ?side1 ?side2 ?side3 ?side4 A157.out).mono ?_
                    (case side1 => exact uC (Kd.R_reads' HO652.out).2.2)
                    (case side2 => exact (Kd.R_reads' HO652.out).2.1)
                    (case side3 => exact uC (Kd.R_reads' HO656.out).2.2)
                    (case side4 => exact (Kd.R_reads' HO656.out).2.1)
                    rintro e w' ⟨rfl, ⟨nd, rfl⟩⟩
                    refine ⟨_, rfl, ?_⟩
                    obtain ⟨Ao187, co187, eo187⟩ := Kd.R_slice HO665.out
                    (first | subst eo187 | (injection eo187 with f1_ f2_ f3_; have f4_ := f1_.symm; have f5_ := f3_.symm; clear f1_ f2_ f3_; subst f4_; subst f5_))
                    obtain ⟨Ao188, co188, eo188⟩ := Kd.R_slice HO670.out
                    (first | subst eo188 | (injection eo188 with f1_ f2_ f3_; have f4_ := f1_.symm; have f5_ := f3_.symm; clear f1_ f2_ f3_; subst f4_; subst f5_))
                    refine hK.out _ _ ⟨(blk_cell BK674.out 0).trans rfl, (blk_cell BK674.out 1).trans rfl, (blk_cell BK674.out 2).trans rfl⟩ (fun hHeld => ?_)
                    clear hK K
                    refine norm_ (a' := ?_) ?_ ?_
                    rotate_left
                    ·show Act.put _ (some 335) _ = _
                     simp only [Act.put, List.setIfInBounds_toArray, List.set_cons_zero, List.set_cons_succ, i64_w, i32_w]
                     rfl
                    refine pure_ (i := 29) (N := some 336) (v := ?_) (a' := ?_) (bq 53 1073741823) rfl rfl (qn HT_) (fun _ _ _ h => h) (Or.inl ⟨by rfl, ?_⟩) ?_ ?_; rotate_left; focus (intro w'; go_simp; with_reducible rfl)
                    rotate_left; focus (simp only [Act.put, List.setIfInBounds_toArray, List.set_cons_zero, List.set_cons_succ, i64_w, i32_w]; rfl)
                    refine pure_ (i := 30) (N := some 337) (v := ?_) (a' := ?_) (bq 53 2147483647) rfl rfl (qn HT_) (fun _ _ _ h => h) (Or.inl ⟨by rfl, ?_⟩) ?_ ?_; rotate_left; focus (intro w'; go_simp; with_reducible rfl)
                    rotate_left; focus (simp only [Act.put, List.setIfInBounds_toArray, List.set_cons_zero, List.set_cons_succ, i64_w, i32_w]; rfl)
                    refine pure_ (i := 31) (N := some 338) (v := ?_) (a' := ?_) (bq 53 4294967295) rfl rfl (qn HT_) (fun _ _ _ h => h) (Or.inl ⟨by rfl, ?_⟩) ?_ ?_; rotate_left; focus (intro w'; go_simp; with_reducible rfl)
                    rotate_left; focus (simp only [Act.put, List.setIfInBounds_toArray, List.set_cons_zero, List.set_cons_succ, i64_w, i32_w]; rfl)
                    refine pure_ (i := 32) (N := some 339) (v := ?_) (a' := ?_) (bq 53 8589934591) rfl rfl (qn HT_) (fun _ _ _ h => h) (Or.inl ⟨by rfl, ?_⟩) ?_ ?_; rotate_left; focus (intro w'; go_simp; with_reducible rfl)
                    rotate_left; focus (simp only [Act.put, List.setIfInBounds_toArray, List.set_cons_zero, List.set_cons_succ, i64_w, i32_w]; rfl)
                    refine pure_ (i := 33) (N := some 340) (v := ?_) (a' := ?_) (bq 53 17179869183) rfl rfl (qn HT_) (fun _ _ _ h => h) (Or.inl ⟨by rfl, ?_⟩) ?_ ?_; rotate_left; focus (intro w'; go_simp; with_reducible rfl)
                    rotate_left; focus (simp only [Act.put, List.setIfInBounds_toArray, List.set_cons_zero, List.set_cons_succ, i64_w, i32_w]; rfl)
                    refine pure_ (i := 34) (N := some 341) (v := ?_) (a' := ?_) (bq 53 34359738367) rfl rfl (qn HT_) (fun _ _ _ h => h) (Or.inl ⟨by rfl, ?_⟩) ?_ ?_; rotate_left; focus (intro w'; go_simp; with_reducible rfl)
                    rotate_left; focus (simp only [Act.put, List.setIfInBounds_toArray, List.set_cons_zero, List.set_cons_succ, i64_w, i32_w]; rfl)
                    refine pure_ (i := 35) (N := some 342) (v := ?_) (a' := ?_) (bq 53 68719476735) rfl rfl (qn HT_) (fun _ _ _ h => h) (Or.inl ⟨by rfl, ?_⟩) ?_ ?_; rotate_left; focus (intro w'; go_simp; with_reducible rfl)
                    rotate_left; focus (simp only [Act.put, List.setIfInBounds_toArray, List.set_cons_zero, List.set_cons_succ, i64_w, i32_w]; rfl)
                    refine pure_ (i := 36) (N := some 343) (v := ?_) (a' := ?_) (bq 53 137438953471) rfl rfl (qn HT_) (fun _ _ _ h => h) (Or.inl ⟨by rfl, ?_⟩) ?_ ?_; rotate_left; focus (intro w'; go_simp; with_reducible rfl)
                    rotate_left; focus (simp only [Act.put, List.setIfInBounds_toArray, List.set_cons_zero, List.set_cons_succ, i64_w, i32_w]; rfl)
                    refine pure_ (i := 37) (N := some 344) (v := ?_) (a' := ?_) (bq 53 274877906943) rfl rfl (qn HT_) (fun _ _ _ h => h) (Or.inl ⟨by rfl, ?_⟩) ?_ ?_; rotate_left; focus (intro w'; go_simp; with_reducible rfl)
                    rotate_left; focus (simp only [Act.put, List.setIfInBounds_toArray, List.set_cons_zero, List.set_cons_succ, i64_w, i32_w]; rfl)
                    refine one_ (i := 38) (N := some 345) (bq 53 549755813887) rfl rfl (qo HT_) (by decide) (fun K hK => ?_)
                    refine goes_ Try.func31 (by kernel_rfl) rfl #[.slice Ao187 t661.length co187, .slice Ao188 t666.length co188] (by rfl) rfl rfl qA ?_
                    with_reducible refine (laws_pSameRecords.calls kj57 _ _ t661 _ _ t666 true _ ?side1 ?side2 ?side3 ?side4 A160.out).mono ?_
                    (case side1 => exact uC (Kd.R_reads' HO665.out).2.2)
                    (case side2 => exact (Kd.R_reads' HO665.out).2.1)
                    (case side3 => exact uC (Kd.R_reads' HO670.out).2.2)
                    (case side4 => exact (Kd.R_reads' HO670.out).2.1)
                    rintro e w' ⟨rfl, ⟨nd, rfl⟩⟩
                    refine ⟨_, rfl, ?_⟩
                    refine hK.out _ _ ⟨(blk_cell BK674.out 0).trans rfl, (blk_cell BK674.out 1).trans rfl, (blk_cell BK674.out 2).trans rfl⟩ (fun hHeld => ?_)
                    clear hK K
                    refine norm_ (a' := ?_) ?_ ?_
                    rotate_left
                    ·show Act.put _ (some 345) _ = _
                     simp only [Act.put, List.setIfInBounds_toArray, List.set_cons_zero, List.set_cons_succ, i64_w, i32_w]
                     rfl
                    refine pure_ (i := 39) (N := some 346) (v := ?_) (a' := ?_) (bq 53 1099511627775) rfl rfl (qn HT_) (fun _ _ _ h => h) (Or.inl ⟨by rfl, ?_⟩) ?_ ?_; rotate_left; focus (intro w'; go_simp; with_reducible rfl)
                    rotate_left; focus (simp only [Act.put, List.setIfInBounds_toArray, List.set_cons_zero, List.set_cons_succ, i64_w, i32_w]; rfl)
                    refine pure_ (i := 40) (N := some 347) (v := ?_) (a' := ?_) (bq 53 2199023255551) rfl rfl (qn HT_) (fun _ _ _ h => h) (Or.inl ⟨by rfl, ?_⟩) ?_ ?_; rotate_left; focus (intro w'; go_simp; with_reducible rfl)
                    rotate_left; focus (simp only [Act.put, List.setIfInBounds_toArray, List.set_cons_zero, List.set_cons_succ, i64_w, i32_w]; rfl)
                    refine pure_ (i := 41) (N := some 348) (v := ?_) (a' := ?_) (bq 53 4398046511103) rfl rfl (qn HT_) (fun _ _ _ h => h) (Or.inl ⟨by rfl, ?_⟩) ?_ ?_; rotate_left; focus (intro w'; go_simp; with_reducible rfl)
                    rotate_left; focus (simp only [Act.put, List.setIfInBounds_toArray, List.set_cons_zero, List.set_cons_succ, i64_w, i32_w]; rfl)
                    refine pure_ (i := 42) (N := some 349) (v := ?_) (a' := ?_) (bq 53 8796093022207) rfl rfl (qn HT_) (fun _ _ _ h => h) (Or.inl ⟨by rfl, ?_⟩) ?_ ?_; rotate_left; focus (intro w'; go_simp; with_reducible rfl)
                    rotate_left; focus (simp only [Act.put, List.setIfInBounds_toArray, List.set_cons_zero, List.set_cons_succ, i64_w, i32_w]; rfl)
                    refine pure_ (i := 43) (N := some 350) (v := ?_) (a' := ?_) (bq 53 17592186044415) rfl rfl (qn HT_) (fun _ _ _ h => h) (Or.inl ⟨by rfl, ?_⟩) ?_ ?_; rotate_left; focus (intro w'; go_simp; with_reducible rfl)
                    rotate_left; focus (simp only [Act.put, List.setIfInBounds_toArray, List.set_cons_zero, List.set_cons_succ, i64_w, i32_w]; rfl)
                    refine pure_ (i := 44) (N := some 351) (v := ?_) (a' := ?_) (bq 53 35184372088831) rfl rfl (qn HT_) (fun _ _ _ h => h) (Or.inl ⟨by rfl, ?_⟩) ?_ ?_; rotate_left; focus (intro w'; go_simp; with_reducible rfl)
                    rotate_left; focus (simp only [Act.put, List.setIfInBounds_toArray, List.set_cons_zero, List.set_cons_succ, i64_w, i32_w]; rfl)
                    refine pure_ (i := 45) (N := some 352) (v := ?_) (a' := ?_) (bq 53 70368744177663) rfl rfl (qn HT_) (fun _ _ _ h => h) (Or.inl ⟨by rfl, ?_⟩) ?_ ?_; rotate_left; focus (intro w'; go_simp; with_reducible rfl)
                    rotate_left; focus (simp only [Act.put, List.setIfInBounds_toArray, List.set_cons_zero, List.set_cons_succ, i64_w, i32_w]; rfl)
                    refine take_ (i := 46) (N := some 353) (v := ?_) (a' := ?_) (bq 53 140737488355327) rfl rfl (take_ofW HT_.out HW_.out (by kernel_rfl)) (fun _ _ _ h => h) (Or.inl ⟨by rfl, ?_⟩) hHeld ?_ ?_
                    rotate_left
                    ·rintro w' ⟨s0, s1, s2⟩
                     go_simp
                     with_reducible rfl
                    rotate_left
                    ·simp only [Act.put, List.setIfInBounds_toArray, List.set_cons_zero, List.set_cons_succ, i64_w, i32_w]
                     rfl
                    refine take_ (i := 48) (N := some 355) (v := ?_) (a' := ?_) (bq 53 422212465065983) rfl rfl (take_ofW HT_.out HW_.out (by kernel_rfl)) (fun _ _ _ h => h) (Or.inl ⟨by rfl, ?_⟩) hHeld ?_ ?_
                    rotate_left
                    ·rintro w' ⟨s0, s1, s2⟩
                     go_simp
                     with_reducible rfl
                    rotate_left
                    ·simp only [Act.put, List.setIfInBounds_toArray, List.set_cons_zero, List.set_cons_succ, i64_w, i32_w]
                     rfl
                    refine one_ (i := 47) (N := some 354) (bq 53 562949953421311) rfl rfl (qo HT_) (by decide) (fun K hK => ?_)
                    refine goes_ Try.func43 (by kernel_rfl) rfl #[.agg #[.int .i64 t671, .int .i64 t672, .int .i64 t673]] (by rfl) rfl rfl qA ?_
                    with_reducible refine (impl_IsJournalRecord.calls t671 t672 t673 t681 _ A163.out).mono ?_
                    rintro e w189 ⟨rfl, hb⟩
                    refine ⟨_, rfl, ?_⟩
                    have n0_ := Aside0.mk (Kd.R_below (qR HO640) hb)
                    have n1_ := Aside0.mk (Kd.R_below (qR HO652) hb)
                    have n2_ := Aside0.mk (Kd.R_below (qR HO656) hb)
                    have n3_ := Aside0.mk (Kd.R_below (qR HO660) hb)
                    have n4_ := Aside0.mk (Kd.R_below (qR HO665) hb)
                    have n5_ := Aside0.mk (Kd.R_below (qR HO670) hb)
                    have n6_ := Aside0.mk (blk_below (g := gb649) (o := .cells #[.int .i64 t645, .int .i64 t646, .int .i64 t647] 61 (0, 0)) (qK BK649) hb)
                    have n7_ := Aside0.mk (blk_below (g := gb674) (o := .cells #[.int .i64 t671, .int .i64 t672, .int .i64 t673] 61 (0, 0)) (qK BK674) hb)
                    have n8_ := Aside0.mk (below_step (qU HB) hb)
                    clear HO640
                    clear HO652
                    clear HO656
                    clear HO660
                    clear HO665
                    clear HO670
                    clear BK649
                    clear BK674
                    clear HB
                    have HO640 := n0_
                    have HO652 := n1_
                    have HO656 := n2_
                    have HO660 := n3_
                    have HO665 := n4_
                    have HO670 := n5_
                    have BK649 := n6_
                    have BK674 := n7_
                    have HB := n8_
                    clear n0_ n1_ n2_ n3_ n4_ n5_ n6_ n7_ n8_
                    (try clear hb)
                    (try clear hb2)
                    (try clear hk)
                    (try clear hi)
                    refine hK.out _ _ ⟨(blk_cell BK674.out 0).trans rfl, (blk_cell BK674.out 1).trans rfl, (blk_cell BK674.out 2).trans rfl⟩ (fun hHeld => ?_)
                    clear hK K
                    refine norm_ (a' := ?_) ?_ ?_
                    rotate_left
                    ·show Act.put _ (some 354) _ = _
                     simp only [Act.put, List.setIfInBounds_toArray, List.set_cons_zero, List.set_cons_succ, i64_w, i32_w]
                     rfl
                    refine one_ (i := 49) (N := some 356) (bq 53 1125899906842623) rfl rfl (qo HT_) (by decide) (fun K hK => ?_)
                    refine goes_ Try.func44 (by kernel_rfl) rfl #[.agg #[.int .i64 t671, .int .i64 t672, .int .i64 t673]] (by rfl) rfl rfl qA ?_
                    with_reducible refine (spec_IsJournalRecord.calls t671 t672 t673 t682 _ A164.out).mono ?_
                    rintro e w190 ⟨rfl, hb⟩
                    refine ⟨_, rfl, ?_⟩
                    have n0_ := Aside0.mk (Kd.R_below (qR HO640) hb)
                    have n1_ := Aside0.mk (Kd.R_below (qR HO652) hb)
                    have n2_ := Aside0.mk (Kd.R_below (qR HO656) hb)
                    have n3_ := Aside0.mk (Kd.R_below (qR HO660) hb)
                    have n4_ := Aside0.mk (Kd.R_below (qR HO665) hb)
                    have n5_ := Aside0.mk (Kd.R_below (qR HO670) hb)
                    have n6_ := Aside0.mk (blk_below (g := gb649) (o := .cells #[.int .i64 t645, .int .i64 t646, .int .i64 t647] 61 (0, 0)) (qK BK649) hb)
                    have n7_ := Aside0.mk (blk_below (g := gb674) (o := .cells #[.int .i64 t671, .int .i64 t672, .int .i64 t673] 61 (0, 0)) (qK BK674) hb)
                    have n8_ := Aside0.mk (below_step (qU HB) hb)
                    clear HO640
                    clear HO652
                    clear HO656
                    clear HO660
                    clear HO665
                    clear HO670
                    clear BK649
                    clear BK674
                    clear HB
                    have HO640 := n0_
                    have HO652 := n1_
                    have HO656 := n2_
                    have HO660 := n3_
                    have HO665 := n4_
                    have HO670 := n5_
                    have BK649 := n6_
                    have BK674 := n7_
                    have HB := n8_
                    clear n0_ n1_ n2_ n3_ n4_ n5_ n6_ n7_ n8_
                    (try clear hb)
                    (try clear hb2)
                    (try clear hk)
                    (try clear hi)
                    refine hK.out _ _ ⟨(blk_cell BK674.out 0).trans rfl, (blk_cell BK674.out 1).trans rfl, (blk_cell BK674.out 2).trans rfl⟩ (fun hHeld => ?_)
                    clear hK K
                    refine norm_ (a' := ?_) ?_ ?_
                    rotate_left
                    ·show Act.put _ (some 356) _ = _
                     simp only [Act.put, List.setIfInBounds_toArray, List.set_cons_zero, List.set_cons_succ, i64_w, i32_w]
                     rfl
                    refine pure_ (i := 50) (N := some 357) (v := ?_) (a' := ?_) (bq 53 2251799813685247) rfl rfl (qn HT_) (fun _ _ _ h => h) (Or.inl ⟨by rfl, ?_⟩) ?_ ?_; rotate_left; focus (intro w'; go_simp; with_reducible rfl)
                    rotate_left; focus (simp only [Act.put, List.setIfInBounds_toArray, List.set_cons_zero, List.set_cons_succ, i64_w, i32_w]; rfl)
                    refine pure_ (i := 51) (N := some 358) (v := ?_) (a' := ?_) (bq 53 4503599627370495) rfl rfl (qn HT_) (fun _ _ _ h => h) (Or.inl ⟨by rfl, ?_⟩) ?_ ?_; rotate_left; focus (intro w'; go_simp; with_reducible rfl)
                    rotate_left; focus (simp only [Act.put, List.setIfInBounds_toArray, List.set_cons_zero, List.set_cons_succ, i64_w, i32_w]; rfl)
                    refine pure_ (i := 52) (N := some 4) (v := ?_) (a' := ?_) (bq 53 9007199254740991) rfl rfl (qn HT_) (fun _ _ _ h => h) (Or.inl ⟨by rfl, ?_⟩) ?_ ?_; rotate_left; focus (intro w'; go_simp; with_reducible rfl)
                    rotate_left; focus (simp only [Act.put, List.setIfInBounds_toArray, List.set_cons_zero, List.set_cons_succ, i64_w, i32_w]; rfl)
                    refine done_ (done_of HT_.out (by kernel_rfl)) ?_
                    try go_wp2
                    go_ret
                    exact ⟨qe, qU HB⟩
                   ·rw [if_neg c162] at H
                    have c162b0 : (t662 == t667) = false := beq_eq_false_iff_ne.mpr c162
                    have c162b1 : (t662 != t667) = true := bne_iff_ne.mpr c162
                    exact absurd H (by simp)
                  ·replace c161 := Bool.eq_false_iff.mpr c161
                   subst c161
                   rw [if_neg (show ¬ (false = true) by decide)] at H
                   exact absurd H (by simp)
                 ·rw [if_neg c159] at H
                  have c159b0 : (t663 == t668) = false := by simpa using c159
                  (try (have c159b1 : decide (t663 = t668) = false := by simpa using c159))
                  (try (have c159b2 : (t663 == t668) = false := by simpa using c159))
                  (try (have c159b3 : ¬ (t663 = t668) := by simpa using c159))
                  clear c159
                  exact absurd H (by simp)
                ·replace c158 := Bool.eq_false_iff.mpr c158
                 subst c158
                 rw [if_neg (show ¬ (false = true) by decide)] at H
                 exact absurd H (by simp)
               ·rw [if_neg c156] at H
                have c156b0 : (t653 == t657) = false := by simpa using c156
                (try (have c156b1 : decide (t653 = t657) = false := by simpa using c156))
                (try (have c156b2 : (t653 == t657) = false := by simpa using c156))
                (try (have c156b3 : ¬ (t653 = t657) := by simpa using c156))
                clear c156
                exact absurd H (by simp)
             ·rw [if_neg c117] at H
              have c117b0 : (t641 == t643) = false := beq_eq_false_iff_ne.mpr c117
              have c117b1 : (t641 != t643) = true := bne_iff_ne.mpr c117
              exact absurd H (by simp)
            ·rw [if_neg c116] at H
             have c116b0 : (t642 == t644) = false := by simpa using c116
             (try (have c116b1 : decide (t642 = t644) = false := by simpa using c116))
             (try (have c116b2 : (t642 == t644) = false := by simpa using c116))
             (try (have c116b3 : ¬ (t642 = t644) := by simpa using c116))
             clear c116
             exact absurd H (by simp)

/-- THE ONE PURE STATEMENT of laws_FnCuts: yours. -/
def laws_FnCuts.Pure : Prop := ∀ (l0 : List Int) (l1 : List Int), l0.length ≤ maxLen → l0.length * 1 ≤ 140737488351232 → (∀ x ∈ l0, (Lit.int .u8 x).wf = true) → l1.length ≤ maxLen → l1.length * 1 ≤ 140737488351232 → (∀ x ∈ l1, (Lit.int .u8 x).wf = true) → ∃ k, laws_FnCuts.f k l0 l1 = some true
theorem laws_FnCuts.walk (P : laws_FnCuts.Pure) (a0 : Option Addr) (len0 cap0 : Nat) (z0 : List Int) (a1 : Option Addr) (len1 cap1 : Nat) (z1 : List Int) (w : World) (w0 : (a0 = none ∧ len0 = 0 ∧ cap0 = 0 ∧ z0 = []) ∨ ∃ x, a0 = some x ∧ len0 ≤ cap0 ∧ cap0 ≤ maxLen ∧ z0.length = cap0 ∧ (∀ i, i < z0.length → w.cell? (x.add i) = some (.int .u8 (z0.getD i 0))) ∧ ∀ n ∈ z0, (Lit.int .u8 n).wf = true) (y0 : len0 * 1 ≤ 140737488351232) (w1 : (a1 = none ∧ len1 = 0 ∧ cap1 = 0 ∧ z1 = []) ∨ ∃ x, a1 = some x ∧ len1 ≤ cap1 ∧ cap1 ≤ maxLen ∧ z1.length = cap1 ∧ (∀ i, i < z1.length → w.cell? (x.add i) = some (.int .u8 (z1.getD i 0))) ∧ ∀ n ∈ z1, (Lit.int .u8 n).wf = true) (y1 : len1 * 1 ≤ 140737488351232) :
  Calls Try.prog 4 #[.slice a0 len0 cap0, .slice a1 len1 cap1] w fun e w' => e = .returned (.bool true) ∧ Below w.heap.size w w' := by
 obtain ⟨l0, rfl, hr0, hm0, hw0, hc0⟩ := ReadsInt.ofRowC w0
 obtain ⟨l1, rfl, hr1, hm1, hw1, hc1⟩ := ReadsInt.ofRowC w1
 obtain ⟨k, h⟩ := P l0 l1 hm0 y0 hw0 hm1 y1 hw1
 refine (laws_FnCuts.calls k _ _ l0 _ _ l1 w (Kd.C_of_reads (d := (0 : Int)) (h1 := fun _ => rfl) hr0) hc0 (Kd.C_of_reads (d := (0 : Int)) (h1 := fun _ => rfl) hr1) hc1 h).mono ?_
 rintro e w' ⟨rfl, hd⟩
 exact ⟨rfl, hd⟩

end Go.Proofs.Ytgblcbgkkfipoaa.XFnCuts
