/- Contracts of Go functions that the law FnProperRuns reaches: each call does what the Lean function beside it says. Written by a program of this session (wip/gen). -/
import Derived.Test.YthamjbfdhghbbaaPFnProperRunsx0
import Derived.Test.YthamjbfdhghbbaaPFnProperRunsx1
import Derived.Test.YthamjbfdhghbbaaPFnProperRunsx3
import Derived.Test.YthamjbfdhghbbaaPFnProperRunsx5
import Derived.Test.YthamjbfdhghbbaaPFnProperRunsx6
import Derived.Test.YthamjbfdhghbbaaPFnProperRunsx7
namespace Go.Proofs.Ythamjbfdhghbbaa.PFnProperRuns
open Go.RowKit Go.Proofs.YthamjbfdhghbbaaW.PrintWords Go.Proofs.YthamjbfdhghbbaaW.PrintLast Go.Proofs.YthamjbfdhghbbaaW.PrintMore
attribute [local go_sem] max2_int min2_int max_two min_two max_three min_three max_four min_four   -- for this text's walks alone
set_option linter.unusedVariables false
set_option linter.unusedSimpArgs false

/-! ### laws_FnProperRuns: function 6 -/
mutual
def laws_FnProperRuns.j0 : Nat → List Int → Int → Int → Int → Bool → List Int → List Int → Bool → Bool → Option (Bool)
  | 0, _, _, _, _, _, _, _, _, _ => none
  | k + 1, x1, x5, x6, x7, x8, x11, x15, x16, x128 => if x128 = true then (none) else (if x8 = true then (if 0 < (x11.length : Int) then (if (rd x11 0) = x5 then (if (x11.length : Int) > x6 then (none) else (laws_FnProperRuns.l0 k x1 x7 x11 x15 x16 1)) else (none)) else (none)) else (laws_FnProperRuns.j2 k x1 x7 x15 x16))
def laws_FnProperRuns.j2 : Nat → List Int → Int → List Int → Bool → Option (Bool)
  | 0, _, _, _, _ => none
  | k + 1, x1, x7, x15, x16 => if x16 = true then (laws_FnProperRuns.l1 k x1 x7 x15 x15 (x15.length : Int) 0) else (laws_FnProperRuns.j5 k x1)
def laws_FnProperRuns.j5 : Nat → List Int → Option (Bool)
  | 0, _ => none
  | k + 1, x1 => (spec_DrawPartnerOf.f k x1).bind fun t379 => ((impl_PartnerOf.f k t379).bind fun bt380 => ((spec_PartnerOf.f k t379).bind fun bt382 => (if (bt380.2 != bt382.2) = true then (none) else (if bt380.1 = bt382.1 then (if bt380.2 = true then ((impl_PartnerOf.f k bt380.1).bind fun bt384 => (if bt384.2 = true then (if bt384.1 = t379 then (some (bt380.1 != t379)) else (none)) else (none))) else (some true)) else (none)))))
def laws_FnProperRuns.l1 : Nat → List Int → Int → List Int → List Int → Int → Int → Option (Bool)
  | 0, _, _, _, _, _, _ => none
  | k + 1, x1, x7, x15, x193, x194, x195 => if x195 < x194 then (if 0 ≤ x195 then (if x195 < (x193.length : Int) then ((impl_ProperSum.f k (rd x193 x195)).bind fun bt371 => (if bt371.2 = true then (if (x15.length : Int) = 0 then (none) else (if 0 ≤ (Int.tmod (wrap64 (x195 + 1)) (x15.length : Int)) then (if (Int.tmod (wrap64 (x195 + 1)) (x15.length : Int)) < (x15.length : Int) then (if bt371.1 = (rd x15 (Int.tmod (wrap64 (x195 + 1)) (x15.length : Int))) then (if 0 < (x15.length : Int) then (if (rd x193 x195) < (rd x15 0) then (none) else (laws_FnProperRuns.l1 k x1 x7 x15 x193 x194 (wrap64 (x195 + 1)))) else (none)) else (none)) else (none)) else (none))) else (none))) else (none)) else (none)) else (if 0 < (x15.length : Int) then ((impl_PartnerOf.f k (rd x15 0)).bind fun bt376 => (if (bt376.2 != ((x15.length : Int) == 2)) = true then (none) else (if bt376.2 = true then (if 1 < (x15.length : Int) then (laws_FnProperRuns.j4 k x1 x7 x15 (bt376.1 != (rd x15 1))) else (none)) else (laws_FnProperRuns.j4 k x1 x7 x15 false)))) else (none))
def laws_FnProperRuns.j4 : Nat → List Int → Int → List Int → Bool → Option (Bool)
  | 0, _, _, _, _ => none
  | k + 1, x1, x7, x15, x248 => if x248 = true then (none) else (if ((x7 == 1) != ((x15.length : Int) == 1)) = true then (none) else (if ((x7 == 2) != ((x15.length : Int) == 2)) = true then (none) else (laws_FnProperRuns.j5 k x1)))
def laws_FnProperRuns.l0 : Nat → List Int → Int → List Int → List Int → Bool → Int → Option (Bool)
  | 0, _, _, _, _, _, _ => none
  | k + 1, x1, x7, x11, x15, x16, x19 => if x19 < (x11.length : Int) then (if 0 ≤ (wrap64 (x19 - 1)) then (if (wrap64 (x19 - 1)) < (x11.length : Int) then ((impl_ProperSum.f k (rd x11 (wrap64 (x19 - 1)))).bind fun bt364 => (if bt364.2 = true then (if 0 ≤ x19 then (if bt364.1 = (rd x11 x19) then (laws_FnProperRuns.l0 k x1 x7 x11 x15 x16 (wrap64 (x19 + 1))) else (none)) else (none)) else (none))) else (none)) else (none)) else (if 0 ≤ (wrap64 ((x11.length : Int) - 1)) then (if (wrap64 ((x11.length : Int) - 1)) < (x11.length : Int) then ((impl_ProperSum.f k (rd x11 (wrap64 ((x11.length : Int) - 1)))).bind fun bt368 => (if bt368.2 = true then (if ((x7 == 0) != (bt368.1 == 0)) = true then (none) else (if ((x7 == 4) != (decide (bt368.1 > 1000000000))) = true then (none) else (laws_FnProperRuns.j2 k x1 x7 x15 x16))) else (none))) else (none)) else (none))
end
def laws_FnProperRuns.f (k : Nat) (l0 : List Int) (l1 : List Int) : Option (Bool) := (laws_big.f l0 l1).bind fun t337 => (if t337 = true then (some true) else ((spec_DrawEndOfRun.f k l0).bind fun bt338 => ((impl_EndOfRun.f k bt338.1 bt338.2).bind fun bt340 => ((spec_EndOfRun.f k bt338.1 bt338.2).bind fun bt342 => ((impl_ProperRun.f k bt338.1 bt338.2).bind fun bt344 => ((spec_ProperRun.f k bt338.1 bt338.2).bind fun bt348 => ((impl_CircleOf.f k bt338.1 bt338.2).bind fun bt352 => ((spec_CircleOf.f k bt338.1 bt338.2).bind fun bt356 => (if (bt340.2 != bt342.2) = true then (none) else (if bt340.1 = bt342.1 then (if (bt344.2 != bt348.2) = true then (none) else ((laws_qSame.f k bt344.1 bt348.1).bind fun t360 => (if t360 = true then (if (bt352.2 != bt356.2) = true then (none) else ((laws_qSame.f k bt352.1 bt356.1).bind fun t361 => (if t361 = true then (if (bt344.2 != bt340.2) = true then (none) else (if bt340.2 = true then (if bt340.1 ≥ 1 then (laws_FnProperRuns.j0 k l1 bt338.1 bt338.2 bt340.1 bt340.2 bt344.1 bt352.1 bt352.2 (bt352.2 != (decide (bt340.1 ≤ 3)))) else (laws_FnProperRuns.j0 k l1 bt338.1 bt338.2 bt340.1 bt340.2 bt344.1 bt352.1 bt352.2 (bt352.2 != false))) else (laws_FnProperRuns.j0 k l1 bt338.1 bt338.2 bt340.1 bt340.2 bt344.1 bt352.1 bt352.2 (bt352.2 != false)))) else (none)))) else (none)))) else (none)))))))))))
theorem laws_FnProperRuns.mono_l : ∀ k, (∀ y0 y1 y2 y3 y4 y5 y6 y7 y8, LeO (laws_FnProperRuns.j0 k y0 y1 y2 y3 y4 y5 y6 y7 y8) (laws_FnProperRuns.j0 (k + 1) y0 y1 y2 y3 y4 y5 y6 y7 y8)) ∧ (∀ y0 y1 y2 y3, LeO (laws_FnProperRuns.j2 k y0 y1 y2 y3) (laws_FnProperRuns.j2 (k + 1) y0 y1 y2 y3)) ∧ (∀ y0, LeO (laws_FnProperRuns.j5 k y0) (laws_FnProperRuns.j5 (k + 1) y0)) ∧ (∀ y0 y1 y2 y3 y4 y5, LeO (laws_FnProperRuns.l1 k y0 y1 y2 y3 y4 y5) (laws_FnProperRuns.l1 (k + 1) y0 y1 y2 y3 y4 y5)) ∧ (∀ y0 y1 y2 y3, LeO (laws_FnProperRuns.j4 k y0 y1 y2 y3) (laws_FnProperRuns.j4 (k + 1) y0 y1 y2 y3)) ∧ (∀ y0 y1 y2 y3 y4 y5, LeO (laws_FnProperRuns.l0 k y0 y1 y2 y3 y4 y5) (laws_FnProperRuns.l0 (k + 1) y0 y1 y2 y3 y4 y5))
  | 0 => ⟨fun _ _ _ _ _ _ _ _ _ r h => by simp [laws_FnProperRuns.j0] at h, fun _ _ _ _ r h => by simp [laws_FnProperRuns.j2] at h, fun _ r h => by simp [laws_FnProperRuns.j5] at h, fun _ _ _ _ _ _ r h => by simp [laws_FnProperRuns.l1] at h, fun _ _ _ _ r h => by simp [laws_FnProperRuns.j4] at h, fun _ _ _ _ _ _ r h => by simp [laws_FnProperRuns.l0] at h⟩
  | k + 1 => by
    obtain ⟨ih0, ih1, ih2, ih3, ih4, ih5⟩ := laws_FnProperRuns.mono_l k
    refine ⟨?_, ?_, ?_, ?_, ?_, ?_⟩
    · intro y0 y1 y2 y3 y4 y5 y6 y7 y8
      unfold laws_FnProperRuns.j0
      repeat' first
      | (with_reducible exact ih0 _ _ _ _ _ _ _ _ _)
      | (with_reducible exact ih1 _ _ _ _)
      | (with_reducible exact ih2 _)
      | (with_reducible exact ih3 _ _ _ _ _ _)
      | (with_reducible exact ih4 _ _ _ _)
      | (with_reducible exact ih5 _ _ _ _ _ _)
      | (with_reducible exact impl_CircleOf.mono _ _ _)
      | (with_reducible exact impl_EndOfRun.mono _ _ _)
      | (with_reducible exact impl_PartnerOf.mono _ _)
      | (with_reducible exact impl_ProperRun.mono _ _ _)
      | (with_reducible exact impl_ProperSum.mono _ _)
      | (with_reducible exact laws_qSame.mono _ _ _)
      | (with_reducible exact spec_CircleOf.mono _ _ _)
      | (with_reducible exact spec_DrawEndOfRun.mono _ _)
      | (with_reducible exact spec_DrawPartnerOf.mono _ _)
      | (with_reducible exact spec_EndOfRun.mono _ _ _)
      | (with_reducible exact spec_PartnerOf.mono _ _)
      | (with_reducible exact spec_ProperRun.mono _ _ _)
      | (with_reducible exact LeO.refl _)
      | (with_reducible exact LeO.none _)
      | (with_reducible refine LeO.ite ?_ ?_)
      | (with_reducible refine LeO.bind ?_ (fun _ => ?_))
      | exact ih0 _ _ _ _ _ _ _ _ _
      | exact ih1 _ _ _ _
      | exact ih2 _
      | exact ih3 _ _ _ _ _ _
      | exact ih4 _ _ _ _
      | exact ih5 _ _ _ _ _ _
      | exact impl_CircleOf.mono _ _ _
      | exact impl_EndOfRun.mono _ _ _
      | exact impl_PartnerOf.mono _ _
      | exact impl_ProperRun.mono _ _ _
      | exact impl_ProperSum.mono _ _
      | exact laws_qSame.mono _ _ _
      | exact spec_CircleOf.mono _ _ _
      | exact spec_DrawEndOfRun.mono _ _
      | exact spec_DrawPartnerOf.mono _ _
      | exact spec_EndOfRun.mono _ _ _
      | exact spec_PartnerOf.mono _ _
      | exact spec_ProperRun.mono _ _ _
      | exact LeO.none _
      | refine LeO.ite ?_ ?_
      | refine LeO.bind ?_ (fun _ => ?_)
    · intro y0 y1 y2 y3
      unfold laws_FnProperRuns.j2
      repeat' first
      | (with_reducible exact ih0 _ _ _ _ _ _ _ _ _)
      | (with_reducible exact ih1 _ _ _ _)
      | (with_reducible exact ih2 _)
      | (with_reducible exact ih3 _ _ _ _ _ _)
      | (with_reducible exact ih4 _ _ _ _)
      | (with_reducible exact ih5 _ _ _ _ _ _)
      | (with_reducible exact impl_CircleOf.mono _ _ _)
      | (with_reducible exact impl_EndOfRun.mono _ _ _)
      | (with_reducible exact impl_PartnerOf.mono _ _)
      | (with_reducible exact impl_ProperRun.mono _ _ _)
      | (with_reducible exact impl_ProperSum.mono _ _)
      | (with_reducible exact laws_qSame.mono _ _ _)
      | (with_reducible exact spec_CircleOf.mono _ _ _)
      | (with_reducible exact spec_DrawEndOfRun.mono _ _)
      | (with_reducible exact spec_DrawPartnerOf.mono _ _)
      | (with_reducible exact spec_EndOfRun.mono _ _ _)
      | (with_reducible exact spec_PartnerOf.mono _ _)
      | (with_reducible exact spec_ProperRun.mono _ _ _)
      | (with_reducible exact LeO.refl _)
      | (with_reducible exact LeO.none _)
      | (with_reducible refine LeO.ite ?_ ?_)
      | (with_reducible refine LeO.bind ?_ (fun _ => ?_))
      | exact ih0 _ _ _ _ _ _ _ _ _
      | exact ih1 _ _ _ _
      | exact ih2 _
      | exact ih3 _ _ _ _ _ _
      | exact ih4 _ _ _ _
      | exact ih5 _ _ _ _ _ _
      | exact impl_CircleOf.mono _ _ _
      | exact impl_EndOfRun.mono _ _ _
      | exact impl_PartnerOf.mono _ _
      | exact impl_ProperRun.mono _ _ _
      | exact impl_ProperSum.mono _ _
      | exact laws_qSame.mono _ _ _
      | exact spec_CircleOf.mono _ _ _
      | exact spec_DrawEndOfRun.mono _ _
      | exact spec_DrawPartnerOf.mono _ _
      | exact spec_EndOfRun.mono _ _ _
      | exact spec_PartnerOf.mono _ _
      | exact spec_ProperRun.mono _ _ _
      | exact LeO.none _
      | refine LeO.ite ?_ ?_
      | refine LeO.bind ?_ (fun _ => ?_)
    · intro y0
      unfold laws_FnProperRuns.j5
      repeat' first
      | (with_reducible exact ih0 _ _ _ _ _ _ _ _ _)
      | (with_reducible exact ih1 _ _ _ _)
      | (with_reducible exact ih2 _)
      | (with_reducible exact ih3 _ _ _ _ _ _)
      | (with_reducible exact ih4 _ _ _ _)
      | (with_reducible exact ih5 _ _ _ _ _ _)
      | (with_reducible exact impl_CircleOf.mono _ _ _)
      | (with_reducible exact impl_EndOfRun.mono _ _ _)
      | (with_reducible exact impl_PartnerOf.mono _ _)
      | (with_reducible exact impl_ProperRun.mono _ _ _)
      | (with_reducible exact impl_ProperSum.mono _ _)
      | (with_reducible exact laws_qSame.mono _ _ _)
      | (with_reducible exact spec_CircleOf.mono _ _ _)
      | (with_reducible exact spec_DrawEndOfRun.mono _ _)
      | (with_reducible exact spec_DrawPartnerOf.mono _ _)
      | (with_reducible exact spec_EndOfRun.mono _ _ _)
      | (with_reducible exact spec_PartnerOf.mono _ _)
      | (with_reducible exact spec_ProperRun.mono _ _ _)
      | (with_reducible exact LeO.refl _)
      | (with_reducible exact LeO.none _)
      | (with_reducible refine LeO.ite ?_ ?_)
      | (with_reducible refine LeO.bind ?_ (fun _ => ?_))
      | exact ih0 _ _ _ _ _ _ _ _ _
      | exact ih1 _ _ _ _
      | exact ih2 _
      | exact ih3 _ _ _ _ _ _
      | exact ih4 _ _ _ _
      | exact ih5 _ _ _ _ _ _
      | exact impl_CircleOf.mono _ _ _
      | exact impl_EndOfRun.mono _ _ _
      | exact impl_PartnerOf.mono _ _
      | exact impl_ProperRun.mono _ _ _
      | exact impl_ProperSum.mono _ _
      | exact laws_qSame.mono _ _ _
      | exact spec_CircleOf.mono _ _ _
      | exact spec_DrawEndOfRun.mono _ _
      | exact spec_DrawPartnerOf.mono _ _
      | exact spec_EndOfRun.mono _ _ _
      | exact spec_PartnerOf.mono _ _
      | exact spec_ProperRun.mono _ _ _
      | exact LeO.none _
      | refine LeO.ite ?_ ?_
      | refine LeO.bind ?_ (fun _ => ?_)
    · intro y0 y1 y2 y3 y4 y5
      unfold laws_FnProperRuns.l1
      repeat' first
      | (with_reducible exact ih0 _ _ _ _ _ _ _ _ _)
      | (with_reducible exact ih1 _ _ _ _)
      | (with_reducible exact ih2 _)
      | (with_reducible exact ih3 _ _ _ _ _ _)
      | (with_reducible exact ih4 _ _ _ _)
      | (with_reducible exact ih5 _ _ _ _ _ _)
      | (with_reducible exact impl_CircleOf.mono _ _ _)
      | (with_reducible exact impl_EndOfRun.mono _ _ _)
      | (with_reducible exact impl_PartnerOf.mono _ _)
      | (with_reducible exact impl_ProperRun.mono _ _ _)
      | (with_reducible exact impl_ProperSum.mono _ _)
      | (with_reducible exact laws_qSame.mono _ _ _)
      | (with_reducible exact spec_CircleOf.mono _ _ _)
      | (with_reducible exact spec_DrawEndOfRun.mono _ _)
      | (with_reducible exact spec_DrawPartnerOf.mono _ _)
      | (with_reducible exact spec_EndOfRun.mono _ _ _)
      | (with_reducible exact spec_PartnerOf.mono _ _)
      | (with_reducible exact spec_ProperRun.mono _ _ _)
      | (with_reducible exact LeO.refl _)
      | (with_reducible exact LeO.none _)
      | (with_reducible refine LeO.ite ?_ ?_)
      | (with_reducible refine LeO.bind ?_ (fun _ => ?_))
      | exact ih0 _ _ _ _ _ _ _ _ _
      | exact ih1 _ _ _ _
      | exact ih2 _
      | exact ih3 _ _ _ _ _ _
      | exact ih4 _ _ _ _
      | exact ih5 _ _ _ _ _ _
      | exact impl_CircleOf.mono _ _ _
      | exact impl_EndOfRun.mono _ _ _
      | exact impl_PartnerOf.mono _ _
      | exact impl_ProperRun.mono _ _ _
      | exact impl_ProperSum.mono _ _
      | exact laws_qSame.mono _ _ _
      | exact spec_CircleOf.mono _ _ _
      | exact spec_DrawEndOfRun.mono _ _
      | exact spec_DrawPartnerOf.mono _ _
      | exact spec_EndOfRun.mono _ _ _
      | exact spec_PartnerOf.mono _ _
      | exact spec_ProperRun.mono _ _ _
      | exact LeO.none _
      | refine LeO.ite ?_ ?_
      | refine LeO.bind ?_ (fun _ => ?_)
    · intro y0 y1 y2 y3
      unfold laws_FnProperRuns.j4
      repeat' first
      | (with_reducible exact ih0 _ _ _ _ _ _ _ _ _)
      | (with_reducible exact ih1 _ _ _ _)
      | (with_reducible exact ih2 _)
      | (with_reducible exact ih3 _ _ _ _ _ _)
      | (with_reducible exact ih4 _ _ _ _)
      | (with_reducible exact ih5 _ _ _ _ _ _)
      | (with_reducible exact impl_CircleOf.mono _ _ _)
      | (with_reducible exact impl_EndOfRun.mono _ _ _)
      | (with_reducible exact impl_PartnerOf.mono _ _)
      | (with_reducible exact impl_ProperRun.mono _ _ _)
      | (with_reducible exact impl_ProperSum.mono _ _)
      | (with_reducible exact laws_qSame.mono _ _ _)
      | (with_reducible exact spec_CircleOf.mono _ _ _)
      | (with_reducible exact spec_DrawEndOfRun.mono _ _)
      | (with_reducible exact spec_DrawPartnerOf.mono _ _)
      | (with_reducible exact spec_EndOfRun.mono _ _ _)
      | (with_reducible exact spec_PartnerOf.mono _ _)
      | (with_reducible exact spec_ProperRun.mono _ _ _)
      | (with_reducible exact LeO.refl _)
      | (with_reducible exact LeO.none _)
      | (with_reducible refine LeO.ite ?_ ?_)
      | (with_reducible refine LeO.bind ?_ (fun _ => ?_))
      | exact ih0 _ _ _ _ _ _ _ _ _
      | exact ih1 _ _ _ _
      | exact ih2 _
      | exact ih3 _ _ _ _ _ _
      | exact ih4 _ _ _ _
      | exact ih5 _ _ _ _ _ _
      | exact impl_CircleOf.mono _ _ _
      | exact impl_EndOfRun.mono _ _ _
      | exact impl_PartnerOf.mono _ _
      | exact impl_ProperRun.mono _ _ _
      | exact impl_ProperSum.mono _ _
      | exact laws_qSame.mono _ _ _
      | exact spec_CircleOf.mono _ _ _
      | exact spec_DrawEndOfRun.mono _ _
      | exact spec_DrawPartnerOf.mono _ _
      | exact spec_EndOfRun.mono _ _ _
      | exact spec_PartnerOf.mono _ _
      | exact spec_ProperRun.mono _ _ _
      | exact LeO.none _
      | refine LeO.ite ?_ ?_
      | refine LeO.bind ?_ (fun _ => ?_)
    · intro y0 y1 y2 y3 y4 y5
      unfold laws_FnProperRuns.l0
      repeat' first
      | (with_reducible exact ih0 _ _ _ _ _ _ _ _ _)
      | (with_reducible exact ih1 _ _ _ _)
      | (with_reducible exact ih2 _)
      | (with_reducible exact ih3 _ _ _ _ _ _)
      | (with_reducible exact ih4 _ _ _ _)
      | (with_reducible exact ih5 _ _ _ _ _ _)
      | (with_reducible exact impl_CircleOf.mono _ _ _)
      | (with_reducible exact impl_EndOfRun.mono _ _ _)
      | (with_reducible exact impl_PartnerOf.mono _ _)
      | (with_reducible exact impl_ProperRun.mono _ _ _)
      | (with_reducible exact impl_ProperSum.mono _ _)
      | (with_reducible exact laws_qSame.mono _ _ _)
      | (with_reducible exact spec_CircleOf.mono _ _ _)
      | (with_reducible exact spec_DrawEndOfRun.mono _ _)
      | (with_reducible exact spec_DrawPartnerOf.mono _ _)
      | (with_reducible exact spec_EndOfRun.mono _ _ _)
      | (with_reducible exact spec_PartnerOf.mono _ _)
      | (with_reducible exact spec_ProperRun.mono _ _ _)
      | (with_reducible exact LeO.refl _)
      | (with_reducible exact LeO.none _)
      | (with_reducible refine LeO.ite ?_ ?_)
      | (with_reducible refine LeO.bind ?_ (fun _ => ?_))
      | exact ih0 _ _ _ _ _ _ _ _ _
      | exact ih1 _ _ _ _
      | exact ih2 _
      | exact ih3 _ _ _ _ _ _
      | exact ih4 _ _ _ _
      | exact ih5 _ _ _ _ _ _
      | exact impl_CircleOf.mono _ _ _
      | exact impl_EndOfRun.mono _ _ _
      | exact impl_PartnerOf.mono _ _
      | exact impl_ProperRun.mono _ _ _
      | exact impl_ProperSum.mono _ _
      | exact laws_qSame.mono _ _ _
      | exact spec_CircleOf.mono _ _ _
      | exact spec_DrawEndOfRun.mono _ _
      | exact spec_DrawPartnerOf.mono _ _
      | exact spec_EndOfRun.mono _ _ _
      | exact spec_PartnerOf.mono _ _
      | exact spec_ProperRun.mono _ _ _
      | exact LeO.none _
      | refine LeO.ite ?_ ?_
      | refine LeO.bind ?_ (fun _ => ?_)
theorem laws_FnProperRuns.mono : ∀ a0 a1 k, LeO (laws_FnProperRuns.f k a0 a1) (laws_FnProperRuns.f (k + 1) a0 a1) := by
  intro a0 a1 k
  obtain ⟨ih0, ih1, ih2, ih3, ih4, ih5⟩ := laws_FnProperRuns.mono_l k
  unfold laws_FnProperRuns.f
  repeat' first
      | (with_reducible exact ih0 _ _ _ _ _ _ _ _ _)
      | (with_reducible exact ih1 _ _ _ _)
      | (with_reducible exact ih2 _)
      | (with_reducible exact ih3 _ _ _ _ _ _)
      | (with_reducible exact ih4 _ _ _ _)
      | (with_reducible exact ih5 _ _ _ _ _ _)
      | (with_reducible exact impl_CircleOf.mono _ _ _)
      | (with_reducible exact impl_EndOfRun.mono _ _ _)
      | (with_reducible exact impl_PartnerOf.mono _ _)
      | (with_reducible exact impl_ProperRun.mono _ _ _)
      | (with_reducible exact impl_ProperSum.mono _ _)
      | (with_reducible exact laws_qSame.mono _ _ _)
      | (with_reducible exact spec_CircleOf.mono _ _ _)
      | (with_reducible exact spec_DrawEndOfRun.mono _ _)
      | (with_reducible exact spec_DrawPartnerOf.mono _ _)
      | (with_reducible exact spec_EndOfRun.mono _ _ _)
      | (with_reducible exact spec_PartnerOf.mono _ _)
      | (with_reducible exact spec_ProperRun.mono _ _ _)
      | (with_reducible exact LeO.refl _)
      | (with_reducible exact LeO.none _)
      | (with_reducible refine LeO.ite ?_ ?_)
      | (with_reducible refine LeO.bind ?_ (fun _ => ?_))
      | exact ih0 _ _ _ _ _ _ _ _ _
      | exact ih1 _ _ _ _
      | exact ih2 _
      | exact ih3 _ _ _ _ _ _
      | exact ih4 _ _ _ _
      | exact ih5 _ _ _ _ _ _
      | exact impl_CircleOf.mono _ _ _
      | exact impl_EndOfRun.mono _ _ _
      | exact impl_PartnerOf.mono _ _
      | exact impl_ProperRun.mono _ _ _
      | exact impl_ProperSum.mono _ _
      | exact laws_qSame.mono _ _ _
      | exact spec_CircleOf.mono _ _ _
      | exact spec_DrawEndOfRun.mono _ _
      | exact spec_DrawPartnerOf.mono _ _
      | exact spec_EndOfRun.mono _ _ _
      | exact spec_PartnerOf.mono _ _
      | exact spec_ProperRun.mono _ _ _
      | exact LeO.none _
      | refine LeO.ite ?_ ?_
      | refine LeO.bind ?_ (fun _ => ?_)
set_option maxHeartbeats 8000000 in
set_option maxRecDepth 100000 in
theorem laws_FnProperRuns.calls (k : Nat) (A0 : Option Addr) (c0 : Nat) (l0 : List Int) (A1 : Option Addr) (c1 : Nat) (l1 : List Int) (r : Bool) (w : World) (hr0 : Kd.C (Kd.int .u8) w A0 l0.length l0) (hc0 : l0.length ≤ c0) (hr1 : Kd.C (Kd.int .u8) w A1 l1.length l1) (hc1 : l1.length ≤ c1) (h : laws_FnProperRuns.f k l0 l1 = some r) :
    Calls Try.prog 6 #[.slice A0 l0.length c0, .slice A1 l1.length c1] w fun e w' => e = .returned (.bool r) ∧ Below w.heap.size w w' := by
  have HR0 := Aside0.mk hr0
  have HC0 := Aside0.mk hc0
  clear hr0 hc0
  have HR1 := Aside0.mk hr1
  have HC1 := Aside0.mk hc1
  clear hr1 hc1
  have HB := Aside0.mk (Below.refl w.heap.size w)
  have H : ((laws_big.f l0 l1).bind fun t337 => (if t337 = true then (some true) else ((spec_DrawEndOfRun.f k l0).bind fun bt338 => ((impl_EndOfRun.f k bt338.1 bt338.2).bind fun bt340 => ((spec_EndOfRun.f k bt338.1 bt338.2).bind fun bt342 => ((impl_ProperRun.f k bt338.1 bt338.2).bind fun bt344 => ((spec_ProperRun.f k bt338.1 bt338.2).bind fun bt348 => ((impl_CircleOf.f k bt338.1 bt338.2).bind fun bt352 => ((spec_CircleOf.f k bt338.1 bt338.2).bind fun bt356 => (if (bt340.2 != bt342.2) = true then (none) else (if bt340.1 = bt342.1 then (if (bt344.2 != bt348.2) = true then (none) else ((laws_qSame.f k bt344.1 bt348.1).bind fun t360 => (if t360 = true then (if (bt352.2 != bt356.2) = true then (none) else ((laws_qSame.f k bt352.1 bt356.1).bind fun t361 => (if t361 = true then (if (bt344.2 != bt340.2) = true then (none) else (if bt340.2 = true then (if bt340.1 ≥ 1 then (laws_FnProperRuns.j0 k l1 bt338.1 bt338.2 bt340.1 bt340.2 bt344.1 bt352.1 bt352.2 (bt352.2 != (decide (bt340.1 ≤ 3)))) else (laws_FnProperRuns.j0 k l1 bt338.1 bt338.2 bt340.1 bt340.2 bt344.1 bt352.1 bt352.2 (bt352.2 != false))) else (laws_FnProperRuns.j0 k l1 bt338.1 bt338.2 bt340.1 bt340.2 bt344.1 bt352.1 bt352.2 (bt352.2 != false)))) else (none)))) else (none)))) else (none)))))))))))) = some r := h
  clear h
  replace H := Option.bind_eq_some_iff.mp H
  obtain ⟨t337, A30, H⟩ := H
  replace H : (if t337 = true then (some true) else ((spec_DrawEndOfRun.f k l0).bind fun bt338 => ((impl_EndOfRun.f k bt338.1 bt338.2).bind fun bt340 => ((spec_EndOfRun.f k bt338.1 bt338.2).bind fun bt342 => ((impl_ProperRun.f k bt338.1 bt338.2).bind fun bt344 => ((spec_ProperRun.f k bt338.1 bt338.2).bind fun bt348 => ((impl_CircleOf.f k bt338.1 bt338.2).bind fun bt352 => ((spec_CircleOf.f k bt338.1 bt338.2).bind fun bt356 => (if (bt340.2 != bt342.2) = true then (none) else (if bt340.1 = bt342.1 then (if (bt344.2 != bt348.2) = true then (none) else ((laws_qSame.f k bt344.1 bt348.1).bind fun t360 => (if t360 = true then (if (bt352.2 != bt356.2) = true then (none) else ((laws_qSame.f k bt352.1 bt356.1).bind fun t361 => (if t361 = true then (if (bt344.2 != bt340.2) = true then (none) else (if bt340.2 = true then (if bt340.1 ≥ 1 then (laws_FnProperRuns.j0 k l1 bt338.1 bt338.2 bt340.1 bt340.2 bt344.1 bt352.1 bt352.2 (bt352.2 != (decide (bt340.1 ≤ 3)))) else (laws_FnProperRuns.j0 k l1 bt338.1 bt338.2 bt340.1 bt340.2 bt344.1 bt352.1 bt352.2 (bt352.2 != false))) else (laws_FnProperRuns.j0 k l1 bt338.1 bt338.2 bt340.1 bt340.2 bt344.1 bt352.1 bt352.2 (bt352.2 != false)))) else (none)))) else (none)))) else (none))))))))))) = some r := H
  have A3 := Aside0.mk A30
  clear A30
  by_cases c4 : t337 = true
  · subst c4
    have H1 : (some true) = some r := by rw [if_pos rfl] at H; exact H
    clear H
    have H := H1
    clear H1
    as_aux_lemma =>
      obtain rfl := Option.some.inj H
      go_enter Try.func6, Try.ntmps6
      go_wp2_with (first | ((with_reducible refine gate_callee (f := 9) rfl ?_); refine goesL_ (some 39) rfl rfl Try.func9 (by kernel_rfl) rfl #[.slice A0 l0.length c0, .slice A1 l1.length c1] rfl (by (try simp only [List.map_toArray, List.map_cons, List.map_nil]); first | done | rfl | (simp only [List.length_drop, List.length_take]; rfl)) ?_; (with_reducible refine (laws_big.calls _ _ l0 _ _ l1 true _ ?side1 ?side2 ?side3 ?side4 A3.out).mono ?_); (case side1 => repeat (first | exact HR0.out | (with_reducible refine Kd.C_alloc ?_ _) | (with_reducible refine Kd.C_drewN ?_ _) | (with_reducible refine Kd.C_drew ?_))); (case side2 => exact HC0.out); (case side3 => repeat (first | exact HR1.out | (with_reducible refine Kd.C_alloc ?_ _) | (with_reducible refine Kd.C_drewN ?_ _) | (with_reducible refine Kd.C_drew ?_))); (case side4 => exact HC1.out); rintro e w' ⟨rfl, ⟨nd, rfl⟩⟩; refine ⟨_, rfl, ?_⟩))
      go_ret
      exact ⟨by first | rfl | (simp [errW_none, errW_some] <;> rfl) | (simp [*, errW_none, errW_some] <;> rfl), by repeat (first | (with_reducible first | exact HB.out | apply below_alloc | apply pw_below_drewN | apply below_drew1) | exact HB.out)⟩
  · replace c4 := Bool.eq_false_iff.mpr c4
    subst c4
    have H1 : ((spec_DrawEndOfRun.f k l0).bind fun bt338 => ((impl_EndOfRun.f k bt338.1 bt338.2).bind fun bt340 => ((spec_EndOfRun.f k bt338.1 bt338.2).bind fun bt342 => ((impl_ProperRun.f k bt338.1 bt338.2).bind fun bt344 => ((spec_ProperRun.f k bt338.1 bt338.2).bind fun bt348 => ((impl_CircleOf.f k bt338.1 bt338.2).bind fun bt352 => ((spec_CircleOf.f k bt338.1 bt338.2).bind fun bt356 => (if (bt340.2 != bt342.2) = true then (none) else (if bt340.1 = bt342.1 then (if (bt344.2 != bt348.2) = true then (none) else ((laws_qSame.f k bt344.1 bt348.1).bind fun t360 => (if t360 = true then (if (bt352.2 != bt356.2) = true then (none) else ((laws_qSame.f k bt352.1 bt356.1).bind fun t361 => (if t361 = true then (if (bt344.2 != bt340.2) = true then (none) else (if bt340.2 = true then (if bt340.1 ≥ 1 then (laws_FnProperRuns.j0 k l1 bt338.1 bt338.2 bt340.1 bt340.2 bt344.1 bt352.1 bt352.2 (bt352.2 != (decide (bt340.1 ≤ 3)))) else (laws_FnProperRuns.j0 k l1 bt338.1 bt338.2 bt340.1 bt340.2 bt344.1 bt352.1 bt352.2 (bt352.2 != false))) else (laws_FnProperRuns.j0 k l1 bt338.1 bt338.2 bt340.1 bt340.2 bt344.1 bt352.1 bt352.2 (bt352.2 != false)))) else (none)))) else (none)))) else (none)))))))))) = some r := by rw [if_neg (show ¬ (false = true) by decide)] at H; exact H
    clear H
    have H := H1
    clear H1
    replace H := Option.bind_eq_some_iff.mp H
    obtain ⟨⟨t338, t339⟩, A50, H⟩ := H
    replace H : ((impl_EndOfRun.f k t338 t339).bind fun bt340 => ((spec_EndOfRun.f k t338 t339).bind fun bt342 => ((impl_ProperRun.f k t338 t339).bind fun bt344 => ((spec_ProperRun.f k t338 t339).bind fun bt348 => ((impl_CircleOf.f k t338 t339).bind fun bt352 => ((spec_CircleOf.f k t338 t339).bind fun bt356 => (if (bt340.2 != bt342.2) = true then (none) else (if bt340.1 = bt342.1 then (if (bt344.2 != bt348.2) = true then (none) else ((laws_qSame.f k bt344.1 bt348.1).bind fun t360 => (if t360 = true then (if (bt352.2 != bt356.2) = true then (none) else ((laws_qSame.f k bt352.1 bt356.1).bind fun t361 => (if t361 = true then (if (bt344.2 != bt340.2) = true then (none) else (if bt340.2 = true then (if bt340.1 ≥ 1 then (laws_FnProperRuns.j0 k l1 t338 t339 bt340.1 bt340.2 bt344.1 bt352.1 bt352.2 (bt352.2 != (decide (bt340.1 ≤ 3)))) else (laws_FnProperRuns.j0 k l1 t338 t339 bt340.1 bt340.2 bt344.1 bt352.1 bt352.2 (bt352.2 != false))) else (laws_FnProperRuns.j0 k l1 t338 t339 bt340.1 bt340.2 bt344.1 bt352.1 bt352.2 (bt352.2 != false)))) else (none)))) else (none)))) else (none))))))))) = some r := H
    have A5 := Aside0.mk A50
    clear A50
    replace H := Option.bind_eq_some_iff.mp H
    obtain ⟨⟨t340, t341⟩, A60, H⟩ := H
    replace H : ((spec_EndOfRun.f k t338 t339).bind fun bt342 => ((impl_ProperRun.f k t338 t339).bind fun bt344 => ((spec_ProperRun.f k t338 t339).bind fun bt348 => ((impl_CircleOf.f k t338 t339).bind fun bt352 => ((spec_CircleOf.f k t338 t339).bind fun bt356 => (if (t341 != bt342.2) = true then (none) else (if t340 = bt342.1 then (if (bt344.2 != bt348.2) = true then (none) else ((laws_qSame.f k bt344.1 bt348.1).bind fun t360 => (if t360 = true then (if (bt352.2 != bt356.2) = true then (none) else ((laws_qSame.f k bt352.1 bt356.1).bind fun t361 => (if t361 = true then (if (bt344.2 != t341) = true then (none) else (if t341 = true then (if t340 ≥ 1 then (laws_FnProperRuns.j0 k l1 t338 t339 t340 t341 bt344.1 bt352.1 bt352.2 (bt352.2 != (decide (t340 ≤ 3)))) else (laws_FnProperRuns.j0 k l1 t338 t339 t340 t341 bt344.1 bt352.1 bt352.2 (bt352.2 != false))) else (laws_FnProperRuns.j0 k l1 t338 t339 t340 t341 bt344.1 bt352.1 bt352.2 (bt352.2 != false)))) else (none)))) else (none)))) else (none)))))))) = some r := H
    have A6 := Aside0.mk A60
    clear A60
    replace H := Option.bind_eq_some_iff.mp H
    obtain ⟨⟨t342, t343⟩, A70, H⟩ := H
    replace H : ((impl_ProperRun.f k t338 t339).bind fun bt344 => ((spec_ProperRun.f k t338 t339).bind fun bt348 => ((impl_CircleOf.f k t338 t339).bind fun bt352 => ((spec_CircleOf.f k t338 t339).bind fun bt356 => (if (t341 != t343) = true then (none) else (if t340 = t342 then (if (bt344.2 != bt348.2) = true then (none) else ((laws_qSame.f k bt344.1 bt348.1).bind fun t360 => (if t360 = true then (if (bt352.2 != bt356.2) = true then (none) else ((laws_qSame.f k bt352.1 bt356.1).bind fun t361 => (if t361 = true then (if (bt344.2 != t341) = true then (none) else (if t341 = true then (if t340 ≥ 1 then (laws_FnProperRuns.j0 k l1 t338 t339 t340 t341 bt344.1 bt352.1 bt352.2 (bt352.2 != (decide (t340 ≤ 3)))) else (laws_FnProperRuns.j0 k l1 t338 t339 t340 t341 bt344.1 bt352.1 bt352.2 (bt352.2 != false))) else (laws_FnProperRuns.j0 k l1 t338 t339 t340 t341 bt344.1 bt352.1 bt352.2 (bt352.2 != false)))) else (none)))) else (none)))) else (none))))))) = some r := H
    have A7 := Aside0.mk A70
    clear A70
    replace H := Option.bind_eq_some_iff.mp H
    obtain ⟨⟨t344, t345⟩, A80, H⟩ := H
    replace H : ((spec_ProperRun.f k t338 t339).bind fun bt348 => ((impl_CircleOf.f k t338 t339).bind fun bt352 => ((spec_CircleOf.f k t338 t339).bind fun bt356 => (if (t341 != t343) = true then (none) else (if t340 = t342 then (if (t345 != bt348.2) = true then (none) else ((laws_qSame.f k t344 bt348.1).bind fun t360 => (if t360 = true then (if (bt352.2 != bt356.2) = true then (none) else ((laws_qSame.f k bt352.1 bt356.1).bind fun t361 => (if t361 = true then (if (t345 != t341) = true then (none) else (if t341 = true then (if t340 ≥ 1 then (laws_FnProperRuns.j0 k l1 t338 t339 t340 t341 t344 bt352.1 bt352.2 (bt352.2 != (decide (t340 ≤ 3)))) else (laws_FnProperRuns.j0 k l1 t338 t339 t340 t341 t344 bt352.1 bt352.2 (bt352.2 != false))) else (laws_FnProperRuns.j0 k l1 t338 t339 t340 t341 t344 bt352.1 bt352.2 (bt352.2 != false)))) else (none)))) else (none)))) else (none)))))) = some r := H
    have A8 := Aside0.mk A80
    clear A80
    replace H := Option.bind_eq_some_iff.mp H
    obtain ⟨⟨t348, t349⟩, A90, H⟩ := H
    replace H : ((impl_CircleOf.f k t338 t339).bind fun bt352 => ((spec_CircleOf.f k t338 t339).bind fun bt356 => (if (t341 != t343) = true then (none) else (if t340 = t342 then (if (t345 != t349) = true then (none) else ((laws_qSame.f k t344 t348).bind fun t360 => (if t360 = true then (if (bt352.2 != bt356.2) = true then (none) else ((laws_qSame.f k bt352.1 bt356.1).bind fun t361 => (if t361 = true then (if (t345 != t341) = true then (none) else (if t341 = true then (if t340 ≥ 1 then (laws_FnProperRuns.j0 k l1 t338 t339 t340 t341 t344 bt352.1 bt352.2 (bt352.2 != (decide (t340 ≤ 3)))) else (laws_FnProperRuns.j0 k l1 t338 t339 t340 t341 t344 bt352.1 bt352.2 (bt352.2 != false))) else (laws_FnProperRuns.j0 k l1 t338 t339 t340 t341 t344 bt352.1 bt352.2 (bt352.2 != false)))) else (none)))) else (none)))) else (none))))) = some r := H
    have A9 := Aside0.mk A90
    clear A90
    replace H := Option.bind_eq_some_iff.mp H
    obtain ⟨⟨t352, t353⟩, A100, H⟩ := H
    replace H : ((spec_CircleOf.f k t338 t339).bind fun bt356 => (if (t341 != t343) = true then (none) else (if t340 = t342 then (if (t345 != t349) = true then (none) else ((laws_qSame.f k t344 t348).bind fun t360 => (if t360 = true then (if (t353 != bt356.2) = true then (none) else ((laws_qSame.f k t352 bt356.1).bind fun t361 => (if t361 = true then (if (t345 != t341) = true then (none) else (if t341 = true then (if t340 ≥ 1 then (laws_FnProperRuns.j0 k l1 t338 t339 t340 t341 t344 t352 t353 (t353 != (decide (t340 ≤ 3)))) else (laws_FnProperRuns.j0 k l1 t338 t339 t340 t341 t344 t352 t353 (t353 != false))) else (laws_FnProperRuns.j0 k l1 t338 t339 t340 t341 t344 t352 t353 (t353 != false)))) else (none)))) else (none)))) else (none)))) = some r := H
    have A10 := Aside0.mk A100
    clear A100
    replace H := Option.bind_eq_some_iff.mp H
    obtain ⟨⟨t356, t357⟩, A110, H⟩ := H
    replace H : (if (t341 != t343) = true then (none) else (if t340 = t342 then (if (t345 != t349) = true then (none) else ((laws_qSame.f k t344 t348).bind fun t360 => (if t360 = true then (if (t353 != t357) = true then (none) else ((laws_qSame.f k t352 t356).bind fun t361 => (if t361 = true then (if (t345 != t341) = true then (none) else (if t341 = true then (if t340 ≥ 1 then (laws_FnProperRuns.j0 k l1 t338 t339 t340 t341 t344 t352 t353 (t353 != (decide (t340 ≤ 3)))) else (laws_FnProperRuns.j0 k l1 t338 t339 t340 t341 t344 t352 t353 (t353 != false))) else (laws_FnProperRuns.j0 k l1 t338 t339 t340 t341 t344 t352 t353 (t353 != false)))) else (none)))) else (none)))) else (none))) = some r := H
    have A11 := Aside0.mk A110
    clear A110
    have HC12 := Aside0.mk H
    clear H
    go_enter Try.func6, Try.ntmps6
    go_upto_region 10 with (first | ((with_reducible refine gate_callee (f := 9) rfl ?_); refine goesL_ (some 39) rfl rfl Try.func9 (by kernel_rfl) rfl #[.slice A0 l0.length c0, .slice A1 l1.length c1] rfl (by (try simp only [List.map_toArray, List.map_cons, List.map_nil]); first | done | rfl | (simp only [List.length_drop, List.length_take]; rfl)) ?_; (with_reducible refine (laws_big.calls _ _ l0 _ _ l1 false _ ?side1 ?side2 ?side3 ?side4 A3.out).mono ?_); (case side1 => repeat (first | exact HR0.out | (with_reducible refine Kd.C_alloc ?_ _) | (with_reducible refine Kd.C_drewN ?_ _) | (with_reducible refine Kd.C_drew ?_))); (case side2 => exact HC0.out); (case side3 => repeat (first | exact HR1.out | (with_reducible refine Kd.C_alloc ?_ _) | (with_reducible refine Kd.C_drewN ?_ _) | (with_reducible refine Kd.C_drew ?_))); (case side4 => exact HC1.out); rintro e w' ⟨rfl, ⟨nd, rfl⟩⟩; refine ⟨_, rfl, ?_⟩) | ((with_reducible refine gate_callee (f := 49) rfl ?_); refine goesL_ (some 42) rfl rfl Try.func49 (by kernel_rfl) rfl #[.slice A0 l0.length c0] rfl (by (try simp only [List.map_toArray, List.map_cons, List.map_nil]); first | done | rfl | (simp only [List.length_drop, List.length_take]; rfl)) ?_; (with_reducible refine (spec_DrawEndOfRun.calls k _ _ l0 t338 t339 _ ?side1 ?side2 A5.out).mono ?_); (case side1 => repeat (first | exact HR0.out | (with_reducible refine Kd.C_alloc ?_ _) | (with_reducible refine Kd.C_drewN ?_ _) | (with_reducible refine Kd.C_drew ?_))); (case side2 => exact HC0.out); rintro e w13 ⟨rfl, hb⟩; refine ⟨_, rfl, ?_⟩; have n0_ := Aside0.mk (below_step (by repeat (first | (with_reducible first | exact HB.out | apply below_alloc | apply pw_below_drewN | apply below_drew1) | exact HB.out)) hb); clear HB; have HB := n0_; clear n0_; (try clear hb); (try clear hb2); (try clear hk); (try clear hi)) | ((with_reducible refine gate_callee (f := 50) rfl ?_); refine goesL_ (some 48) rfl rfl Try.func50 (by kernel_rfl) rfl #[.int .i64 t338, .int .i64 t339] rfl (by (try simp only [List.map_toArray, List.map_cons, List.map_nil]); first | done | rfl | (simp only [List.length_drop, List.length_take]; rfl)) ?_; (with_reducible refine (impl_EndOfRun.calls k t338 t339 t340 t341 _ A6.out).mono ?_); rintro e w14 ⟨rfl, hb⟩; refine ⟨_, rfl, ?_⟩; have n0_ := Aside0.mk (below_step (by repeat (first | (with_reducible first | exact HB.out | apply below_alloc | apply pw_below_drewN | apply below_drew1) | exact HB.out)) hb); clear HB; have HB := n0_; clear n0_; (try clear hb); (try clear hb2); (try clear hk); (try clear hi)) | ((with_reducible refine gate_callee (f := 51) rfl ?_); refine goesL_ (some 54) rfl rfl Try.func51 (by kernel_rfl) rfl #[.int .i64 t338, .int .i64 t339] rfl (by (try simp only [List.map_toArray, List.map_cons, List.map_nil]); first | done | rfl | (simp only [List.length_drop, List.length_take]; rfl)) ?_; (with_reducible refine (spec_EndOfRun.calls k t338 t339 t342 t343 _ A7.out).mono ?_); rintro e w15 ⟨rfl, hb⟩; refine ⟨_, rfl, ?_⟩; have n0_ := Aside0.mk (below_step (by repeat (first | (with_reducible first | exact HB.out | apply below_alloc | apply pw_below_drewN | apply below_drew1) | exact HB.out)) hb); clear HB; have HB := n0_; clear n0_; (try clear hb); (try clear hb2); (try clear hk); (try clear hi)) | ((with_reducible refine gate_callee (f := 52) rfl ?_); refine goesL_ (some 60) rfl rfl Try.func52 (by kernel_rfl) rfl #[.int .i64 t338, .int .i64 t339] rfl (by (try simp only [List.map_toArray, List.map_cons, List.map_nil]); first | done | rfl | (simp only [List.length_drop, List.length_take]; rfl)) ?_; (with_reducible refine (impl_ProperRun.calls k t338 t339 t344 t345 _ A8.out).mono ?_); rintro e w16 ⟨v346, rfl, ho0, hb⟩; refine ⟨_, rfl, ?_⟩; have n0_ := Aside0.mk (Kd.R_lower ho0 (below_size (by repeat (first | (with_reducible first | exact HB.out | apply below_alloc | apply pw_below_drewN | apply below_drew1) | exact HB.out)))); have n1_ := Aside0.mk (below_step (by repeat (first | (with_reducible first | exact HB.out | apply below_alloc | apply pw_below_drewN | apply below_drew1) | exact HB.out)) hb); clear HB; have HO347 := n0_; have HB := n1_; clear n0_ n1_; (try clear hb); (try clear hb2); (try clear hk); (try clear hi); (try clear ho0)) | ((with_reducible refine gate_callee (f := 53) rfl ?_); refine goesL_ (some 66) rfl rfl Try.func53 (by kernel_rfl) rfl #[.int .i64 t338, .int .i64 t339] rfl (by (try simp only [List.map_toArray, List.map_cons, List.map_nil]); first | done | rfl | (simp only [List.length_drop, List.length_take]; rfl)) ?_; (with_reducible refine (spec_ProperRun.calls k t338 t339 t348 t349 _ A9.out).mono ?_); rintro e w17 ⟨v350, rfl, ho0, hb⟩; refine ⟨_, rfl, ?_⟩; have n0_ := Aside0.mk (Kd.R_elder' (by (with_reducible repeat (first | apply Kd.R_alloc | apply Kd.R_drewN | apply Kd.R_drew)); exact HO347.out) (Kd.R_base ho0) hb); have n1_ := Aside0.mk (Kd.R_lower (Kd.R_new' ho0 (Kd.R_lt (by (with_reducible repeat (first | apply Kd.R_alloc | apply Kd.R_drewN | apply Kd.R_drew)); exact HO347.out))) (below_size (by repeat (first | (with_reducible first | exact HB.out | apply below_alloc | apply pw_below_drewN | apply below_drew1) | exact HB.out)))); have n2_ := Aside0.mk (below_step (by repeat (first | (with_reducible first | exact HB.out | apply below_alloc | apply pw_below_drewN | apply below_drew1) | exact HB.out)) hb); clear HO347; clear HB; have HO347 := n0_; have HO351 := n1_; have HB := n2_; clear n0_ n1_ n2_; (try clear hb); (try clear hb2); (try clear hk); (try clear hi); (try clear ho0)) | ((with_reducible refine gate_callee (f := 54) rfl ?_); refine goesL_ (some 72) rfl rfl Try.func54 (by kernel_rfl) rfl #[.int .i64 t338, .int .i64 t339] rfl (by (try simp only [List.map_toArray, List.map_cons, List.map_nil]); first | done | rfl | (simp only [List.length_drop, List.length_take]; rfl)) ?_; (with_reducible refine (impl_CircleOf.calls k t338 t339 t352 t353 _ A10.out).mono ?_); rintro e w18 ⟨v354, rfl, ho0, hb⟩; refine ⟨_, rfl, ?_⟩; have n0_ := Aside0.mk (Kd.R_elder' (by (with_reducible repeat (first | apply Kd.R_alloc | apply Kd.R_drewN | apply Kd.R_drew)); exact HO347.out) (Kd.R_base ho0) hb); have n1_ := Aside0.mk (Kd.R_elder' (by (with_reducible repeat (first | apply Kd.R_alloc | apply Kd.R_drewN | apply Kd.R_drew)); exact HO351.out) (Kd.R_base ho0) hb); have n2_ := Aside0.mk (Kd.R_lower (Kd.R_new' (Kd.R_new' ho0 (Kd.R_lt (by (with_reducible repeat (first | apply Kd.R_alloc | apply Kd.R_drewN | apply Kd.R_drew)); exact HO347.out))) (Kd.R_lt (by (with_reducible repeat (first | apply Kd.R_alloc | apply Kd.R_drewN | apply Kd.R_drew)); exact HO351.out))) (below_size (by repeat (first | (with_reducible first | exact HB.out | apply below_alloc | apply pw_below_drewN | apply below_drew1) | exact HB.out)))); have n3_ := Aside0.mk (below_step (by repeat (first | (with_reducible first | exact HB.out | apply below_alloc | apply pw_below_drewN | apply below_drew1) | exact HB.out)) hb); clear HO347; clear HO351; clear HB; have HO347 := n0_; have HO351 := n1_; have HO355 := n2_; have HB := n3_; clear n0_ n1_ n2_ n3_; (try clear hb); (try clear hb2); (try clear hk); (try clear hi); (try clear ho0)) | ((with_reducible refine gate_callee (f := 55) rfl ?_); refine goesL_ (some 78) rfl rfl Try.func55 (by kernel_rfl) rfl #[.int .i64 t338, .int .i64 t339] rfl (by (try simp only [List.map_toArray, List.map_cons, List.map_nil]); first | done | rfl | (simp only [List.length_drop, List.length_take]; rfl)) ?_; (with_reducible refine (spec_CircleOf.calls k t338 t339 t356 t357 _ A11.out).mono ?_); rintro e w19 ⟨v358, rfl, ho0, hb⟩; refine ⟨_, rfl, ?_⟩; have n0_ := Aside0.mk (Kd.R_elder' (by (with_reducible repeat (first | apply Kd.R_alloc | apply Kd.R_drewN | apply Kd.R_drew)); exact HO347.out) (Kd.R_base ho0) hb); have n1_ := Aside0.mk (Kd.R_elder' (by (with_reducible repeat (first | apply Kd.R_alloc | apply Kd.R_drewN | apply Kd.R_drew)); exact HO351.out) (Kd.R_base ho0) hb); have n2_ := Aside0.mk (Kd.R_elder' (by (with_reducible repeat (first | apply Kd.R_alloc | apply Kd.R_drewN | apply Kd.R_drew)); exact HO355.out) (Kd.R_base ho0) hb); have n3_ := Aside0.mk (Kd.R_lower (Kd.R_new' (Kd.R_new' (Kd.R_new' ho0 (Kd.R_lt (by (with_reducible repeat (first | apply Kd.R_alloc | apply Kd.R_drewN | apply Kd.R_drew)); exact HO347.out))) (Kd.R_lt (by (with_reducible repeat (first | apply Kd.R_alloc | apply Kd.R_drewN | apply Kd.R_drew)); exact HO351.out))) (Kd.R_lt (by (with_reducible repeat (first | apply Kd.R_alloc | apply Kd.R_drewN | apply Kd.R_drew)); exact HO355.out))) (below_size (by repeat (first | (with_reducible first | exact HB.out | apply below_alloc | apply pw_below_drewN | apply below_drew1) | exact HB.out)))); have n4_ := Aside0.mk (below_step (by repeat (first | (with_reducible first | exact HB.out | apply below_alloc | apply pw_below_drewN | apply below_drew1) | exact HB.out)) hb); clear HO347; clear HO351; clear HO355; clear HB; have HO347 := n0_; have HO351 := n1_; have HO355 := n2_; have HO359 := n3_; have HB := n4_; clear n0_ n1_ n2_ n3_ n4_; (try clear hb); (try clear hb2); (try clear hk); (try clear hi); (try clear ho0)))
    (try simp only [Act.put, List.setIfInBounds_toArray, List.set_cons_zero, List.set_cons_succ])
    go_cut [128] (fun v128 wc => ∃ (kq : Nat) (x128_11 : Bool), v128 = .bool x128_11 ∧ Aside0 (laws_FnProperRuns.j0 kq l1 t338 t339 t340 t341 t344 t352 t353 x128_11 = some r) ∧ Aside0 (kq ≤ k) ∧ Aside0 (Kd.R (Kd.int .i64) 3 wc w.heap.size (fun k_ => some k_ ≠ (v354 : Value).ownBlock) v346 t344) ∧ Aside0 (Kd.R (Kd.int .i64) 3 wc w.heap.size (fun k_ => some k_ ≠ (v346 : Value).ownBlock) v354 t352) ∧ Aside0 (Below w.heap.size w wc))
    case first =>
      have H := HC12.out
      clear HC12
      by_cases c20 : (t341 != t343) = true
      · rw [if_pos c20] at H
        exact absurd H (by simp)
      · rw [if_neg c20] at H
        have c20b0 : (t341 != t343) = false := by simpa using c20
        (try (have c20b1 : decide (t341 = t343) = true := by simpa using c20))
        (try (have c20b2 : (t341 == t343) = true := by simpa using c20))
        clear c20
        (first | rw [c20b0] | (simp only [i64_w, i32_w]; rw [c20b0]) | skip)
        by_cases c21 : t340 = t342
        · rw [if_pos c21] at H
          have c21b0 : (t340 == t342) = true := beq_iff_eq.mpr c21
          have c21b1 : (t340 != t342) = false := bne_eq_false_iff_eq.mpr c21
          clear c21
          by_cases c22 : (t345 != t349) = true
          · rw [if_pos c22] at H
            exact absurd H (by simp)
          · rw [if_neg c22] at H
            have c22b0 : (t345 != t349) = false := by simpa using c22
            (try (have c22b1 : decide (t345 = t349) = true := by simpa using c22))
            (try (have c22b2 : (t345 == t349) = true := by simpa using c22))
            clear c22
            replace H := Option.bind_eq_some_iff.mp H
            obtain ⟨t360, A230, H⟩ := H
            replace H : (if t360 = true then (if (t353 != t357) = true then (none) else ((laws_qSame.f k t352 t356).bind fun t361 => (if t361 = true then (if (t345 != t341) = true then (none) else (if t341 = true then (if t340 ≥ 1 then (laws_FnProperRuns.j0 k l1 t338 t339 t340 t341 t344 t352 t353 (t353 != (decide (t340 ≤ 3)))) else (laws_FnProperRuns.j0 k l1 t338 t339 t340 t341 t344 t352 t353 (t353 != false))) else (laws_FnProperRuns.j0 k l1 t338 t339 t340 t341 t344 t352 t353 (t353 != false)))) else (none)))) else (none)) = some r := H
            have A23 := Aside0.mk A230
            clear A230
            by_cases c24 : t360 = true
            · subst c24
              have H1 : (if (t353 != t357) = true then (none) else ((laws_qSame.f k t352 t356).bind fun t361 => (if t361 = true then (if (t345 != t341) = true then (none) else (if t341 = true then (if t340 ≥ 1 then (laws_FnProperRuns.j0 k l1 t338 t339 t340 t341 t344 t352 t353 (t353 != (decide (t340 ≤ 3)))) else (laws_FnProperRuns.j0 k l1 t338 t339 t340 t341 t344 t352 t353 (t353 != false))) else (laws_FnProperRuns.j0 k l1 t338 t339 t340 t341 t344 t352 t353 (t353 != false)))) else (none)))) = some r := by rw [if_pos rfl] at H; exact H
              clear H
              have H := H1
              clear H1
              by_cases c25 : (t353 != t357) = true
              · rw [if_pos c25] at H
                exact absurd H (by simp)
              · rw [if_neg c25] at H
                have c25b0 : (t353 != t357) = false := by simpa using c25
                (try (have c25b1 : decide (t353 = t357) = true := by simpa using c25))
                (try (have c25b2 : (t353 == t357) = true := by simpa using c25))
                clear c25
                replace H := Option.bind_eq_some_iff.mp H
                obtain ⟨t361, A260, H⟩ := H
                replace H : (if t361 = true then (if (t345 != t341) = true then (none) else (if t341 = true then (if t340 ≥ 1 then (laws_FnProperRuns.j0 k l1 t338 t339 t340 t341 t344 t352 t353 (t353 != (decide (t340 ≤ 3)))) else (laws_FnProperRuns.j0 k l1 t338 t339 t340 t341 t344 t352 t353 (t353 != false))) else (laws_FnProperRuns.j0 k l1 t338 t339 t340 t341 t344 t352 t353 (t353 != false)))) else (none)) = some r := H
                have A26 := Aside0.mk A260
                clear A260
                by_cases c27 : t361 = true
                · subst c27
                  have H1 : (if (t345 != t341) = true then (none) else (if t341 = true then (if t340 ≥ 1 then (laws_FnProperRuns.j0 k l1 t338 t339 t340 t341 t344 t352 t353 (t353 != (decide (t340 ≤ 3)))) else (laws_FnProperRuns.j0 k l1 t338 t339 t340 t341 t344 t352 t353 (t353 != false))) else (laws_FnProperRuns.j0 k l1 t338 t339 t340 t341 t344 t352 t353 (t353 != false)))) = some r := by rw [if_pos rfl] at H; exact H
                  clear H
                  have H := H1
                  clear H1
                  by_cases c28 : (t345 != t341) = true
                  · rw [if_pos c28] at H
                    exact absurd H (by simp)
                  · rw [if_neg c28] at H
                    have c28b0 : (t345 != t341) = false := by simpa using c28
                    (try (have c28b1 : decide (t345 = t341) = true := by simpa using c28))
                    (try (have c28b2 : (t345 == t341) = true := by simpa using c28))
                    clear c28
                    by_cases c29 : t341 = true
                    · subst c29
                      have H1 : (if t340 ≥ 1 then (laws_FnProperRuns.j0 k l1 t338 t339 t340 true t344 t352 t353 (t353 != (decide (t340 ≤ 3)))) else (laws_FnProperRuns.j0 k l1 t338 t339 t340 true t344 t352 t353 (t353 != false))) = some r := by rw [if_pos rfl] at H; exact H
                      clear H
                      have H := H1
                      clear H1
                      by_cases c30 : t340 ≥ 1
                      · rw [if_pos c30] at H
                        have c30b0 : decide (1 ≤ t340) = true := decide_eq_true c30
                        clear c30
                        as_aux_lemma =>
                          have H' := Aside0.mk H
                          clear H
                          obtain ⟨Ao31, co31, eo31⟩ := Kd.R_slice HO347.out
                          subst eo31
                          obtain ⟨Ao32, co32, eo32⟩ := Kd.R_slice HO351.out
                          subst eo32
                          go_wp2_with (first | (go_at_call 17; (with_reducible refine (laws_qSame.calls k _ _ t344 _ _ t348 true _ ?side1 ?side2 ?side3 ?side4 A23.out).mono ?_); (case side1 => repeat (first | exact (Kd.R_reads' HO347.out).2.2 | (with_reducible refine Kd.C_alloc ?_ _) | (with_reducible refine Kd.C_drewN ?_ _) | (with_reducible refine Kd.C_drew ?_))); (case side2 => exact (Kd.R_reads' HO347.out).2.1); (case side3 => repeat (first | exact (Kd.R_reads' HO351.out).2.2 | (with_reducible refine Kd.C_alloc ?_ _) | (with_reducible refine Kd.C_drewN ?_ _) | (with_reducible refine Kd.C_drew ?_))); (case side4 => exact (Kd.R_reads' HO351.out).2.1); rintro e w' ⟨rfl, ⟨nd, rfl⟩⟩; obtain ⟨Ao33, co33, eo33⟩ := Kd.R_slice HO355.out; subst eo33; obtain ⟨Ao34, co34, eo34⟩ := Kd.R_slice HO359.out; subst eo34) | (go_at_call 17; (with_reducible refine (laws_qSame.calls k _ _ t352 _ _ t356 true _ ?side1 ?side2 ?side3 ?side4 A26.out).mono ?_); (case side1 => repeat (first | exact (Kd.R_reads' HO355.out).2.2 | (with_reducible refine Kd.C_alloc ?_ _) | (with_reducible refine Kd.C_drewN ?_ _) | (with_reducible refine Kd.C_drew ?_))); (case side2 => exact (Kd.R_reads' HO355.out).2.1); (case side3 => repeat (first | exact (Kd.R_reads' HO359.out).2.2 | (with_reducible refine Kd.C_alloc ?_ _) | (with_reducible refine Kd.C_drewN ?_ _) | (with_reducible refine Kd.C_drew ?_))); (case side4 => exact (Kd.R_reads' HO359.out).2.1); rintro e w' ⟨rfl, ⟨nd, rfl⟩⟩))
                          go_meet
                          case rel => exact ⟨_, ((t353 != (decide (t340 ≤ 3)))), (by first | rfl | (simp; done) | (simp [*]; done)), H', ⟨by first | omega | exact Nat.le_refl _⟩, ⟨by (with_reducible repeat (first | apply Kd.R_alloc | apply Kd.R_drewN | apply Kd.R_drew)); exact Kd.R_mono HO347.out (fun _ hk => hk.1.2)⟩, ⟨by (with_reducible repeat (first | apply Kd.R_alloc | apply Kd.R_drewN | apply Kd.R_drew)); exact Kd.R_mono HO355.out (fun _ hk => hk.1.1.2)⟩, ⟨by repeat (first | (with_reducible first | exact HB.out | apply below_alloc | apply pw_below_drewN | apply below_drew1) | exact HB.out)⟩⟩
                      · rw [if_neg c30] at H
                        have c30b0 : decide (1 ≤ t340) = false := decide_eq_false c30
                        clear c30
                        as_aux_lemma =>
                          have H' := Aside0.mk H
                          clear H
                          obtain ⟨Ao35, co35, eo35⟩ := Kd.R_slice HO347.out
                          subst eo35
                          obtain ⟨Ao36, co36, eo36⟩ := Kd.R_slice HO351.out
                          subst eo36
                          go_wp2_with (first | (go_at_call 17; (with_reducible refine (laws_qSame.calls k _ _ t344 _ _ t348 true _ ?side1 ?side2 ?side3 ?side4 A23.out).mono ?_); (case side1 => repeat (first | exact (Kd.R_reads' HO347.out).2.2 | (with_reducible refine Kd.C_alloc ?_ _) | (with_reducible refine Kd.C_drewN ?_ _) | (with_reducible refine Kd.C_drew ?_))); (case side2 => exact (Kd.R_reads' HO347.out).2.1); (case side3 => repeat (first | exact (Kd.R_reads' HO351.out).2.2 | (with_reducible refine Kd.C_alloc ?_ _) | (with_reducible refine Kd.C_drewN ?_ _) | (with_reducible refine Kd.C_drew ?_))); (case side4 => exact (Kd.R_reads' HO351.out).2.1); rintro e w' ⟨rfl, ⟨nd, rfl⟩⟩; obtain ⟨Ao37, co37, eo37⟩ := Kd.R_slice HO355.out; subst eo37; obtain ⟨Ao38, co38, eo38⟩ := Kd.R_slice HO359.out; subst eo38) | (go_at_call 17; (with_reducible refine (laws_qSame.calls k _ _ t352 _ _ t356 true _ ?side1 ?side2 ?side3 ?side4 A26.out).mono ?_); (case side1 => repeat (first | exact (Kd.R_reads' HO355.out).2.2 | (with_reducible refine Kd.C_alloc ?_ _) | (with_reducible refine Kd.C_drewN ?_ _) | (with_reducible refine Kd.C_drew ?_))); (case side2 => exact (Kd.R_reads' HO355.out).2.1); (case side3 => repeat (first | exact (Kd.R_reads' HO359.out).2.2 | (with_reducible refine Kd.C_alloc ?_ _) | (with_reducible refine Kd.C_drewN ?_ _) | (with_reducible refine Kd.C_drew ?_))); (case side4 => exact (Kd.R_reads' HO359.out).2.1); rintro e w' ⟨rfl, ⟨nd, rfl⟩⟩))
                          go_meet
                          case rel => exact ⟨_, ((t353 != false)), (by first | rfl | (simp; done) | (simp [*]; done)), H', ⟨by first | omega | exact Nat.le_refl _⟩, ⟨by (with_reducible repeat (first | apply Kd.R_alloc | apply Kd.R_drewN | apply Kd.R_drew)); exact Kd.R_mono HO347.out (fun _ hk => hk.1.2)⟩, ⟨by (with_reducible repeat (first | apply Kd.R_alloc | apply Kd.R_drewN | apply Kd.R_drew)); exact Kd.R_mono HO355.out (fun _ hk => hk.1.1.2)⟩, ⟨by repeat (first | (with_reducible first | exact HB.out | apply below_alloc | apply pw_below_drewN | apply below_drew1) | exact HB.out)⟩⟩
                    · replace c29 := Bool.eq_false_iff.mpr c29
                      subst c29
                      have H1 : (laws_FnProperRuns.j0 k l1 t338 t339 t340 false t344 t352 t353 (t353 != false)) = some r := by rw [if_neg (show ¬ (false = true) by decide)] at H; exact H
                      clear H
                      have H := H1
                      clear H1
                      as_aux_lemma =>
                        have H' := Aside0.mk H
                        clear H
                        obtain ⟨Ao39, co39, eo39⟩ := Kd.R_slice HO347.out
                        subst eo39
                        obtain ⟨Ao40, co40, eo40⟩ := Kd.R_slice HO351.out
                        subst eo40
                        go_wp2_with (first | (go_at_call 17; (with_reducible refine (laws_qSame.calls k _ _ t344 _ _ t348 true _ ?side1 ?side2 ?side3 ?side4 A23.out).mono ?_); (case side1 => repeat (first | exact (Kd.R_reads' HO347.out).2.2 | (with_reducible refine Kd.C_alloc ?_ _) | (with_reducible refine Kd.C_drewN ?_ _) | (with_reducible refine Kd.C_drew ?_))); (case side2 => exact (Kd.R_reads' HO347.out).2.1); (case side3 => repeat (first | exact (Kd.R_reads' HO351.out).2.2 | (with_reducible refine Kd.C_alloc ?_ _) | (with_reducible refine Kd.C_drewN ?_ _) | (with_reducible refine Kd.C_drew ?_))); (case side4 => exact (Kd.R_reads' HO351.out).2.1); rintro e w' ⟨rfl, ⟨nd, rfl⟩⟩; obtain ⟨Ao41, co41, eo41⟩ := Kd.R_slice HO355.out; subst eo41; obtain ⟨Ao42, co42, eo42⟩ := Kd.R_slice HO359.out; subst eo42) | (go_at_call 17; (with_reducible refine (laws_qSame.calls k _ _ t352 _ _ t356 true _ ?side1 ?side2 ?side3 ?side4 A26.out).mono ?_); (case side1 => repeat (first | exact (Kd.R_reads' HO355.out).2.2 | (with_reducible refine Kd.C_alloc ?_ _) | (with_reducible refine Kd.C_drewN ?_ _) | (with_reducible refine Kd.C_drew ?_))); (case side2 => exact (Kd.R_reads' HO355.out).2.1); (case side3 => repeat (first | exact (Kd.R_reads' HO359.out).2.2 | (with_reducible refine Kd.C_alloc ?_ _) | (with_reducible refine Kd.C_drewN ?_ _) | (with_reducible refine Kd.C_drew ?_))); (case side4 => exact (Kd.R_reads' HO359.out).2.1); rintro e w' ⟨rfl, ⟨nd, rfl⟩⟩))
                        go_meet
                        case rel => exact ⟨_, ((t353 != false)), (by first | rfl | (simp; done) | (simp [*]; done)), H', ⟨by first | omega | exact Nat.le_refl _⟩, ⟨by (with_reducible repeat (first | apply Kd.R_alloc | apply Kd.R_drewN | apply Kd.R_drew)); exact Kd.R_mono HO347.out (fun _ hk => hk.1.2)⟩, ⟨by (with_reducible repeat (first | apply Kd.R_alloc | apply Kd.R_drewN | apply Kd.R_drew)); exact Kd.R_mono HO355.out (fun _ hk => hk.1.1.2)⟩, ⟨by repeat (first | (with_reducible first | exact HB.out | apply below_alloc | apply pw_below_drewN | apply below_drew1) | exact HB.out)⟩⟩
                · replace c27 := Bool.eq_false_iff.mpr c27
                  subst c27
                  have H1 : (none) = some r := by rw [if_neg (show ¬ (false = true) by decide)] at H; exact H
                  clear H
                  have H := H1
                  clear H1
                  exact absurd H (by simp)
            · replace c24 := Bool.eq_false_iff.mpr c24
              subst c24
              have H1 : (none) = some r := by rw [if_neg (show ¬ (false = true) by decide)] at H; exact H
              clear H
              have H := H1
              clear H1
              exact absurd H (by simp)
        · rw [if_neg c21] at H
          exact absurd H (by simp)
    case rest =>
      clear HC12
      try clear c1
      try clear c2
      try clear p2
      try clear c3
      try clear c4
      try clear c5
      try clear c6
      try clear c9
      try clear c20
      try clear c20b0
      try clear c20b1
      try clear c20b2
      try clear c21
      try clear c21b0
      try clear c21b1
      try clear c22
      try clear c22b0
      try clear c22b1
      try clear c22b2
      try clear c24
      try clear c25
      try clear c25b0
      try clear c25b1
      try clear c25b2
      try clear c27
      try clear c28
      try clear c28b0
      try clear c28b1
      try clear c28b2
      try clear c29
      try clear c30
      try clear c30b0
      obtain ⟨kq, x128_11, rfl, HA, HJ11, HO_11, HO_15, HB⟩ := hcut
      cases kq with
      | zero => exact absurd HA.out (by simp [laws_FnProperRuns.j0])
      | succ kj11 =>
        have H := HA.out
        clear HA
        simp only [laws_FnProperRuns.j0] at H
        by_cases c43 : x128_11 = true
        · subst c43
          have H1 : (none) = some r := by rw [if_pos rfl] at H; exact H
          clear H
          have H := H1
          clear H1
          exact absurd H (by simp)
        · replace c43 := Bool.eq_false_iff.mpr c43
          subst c43
          have H1 : (if t341 = true then (if 0 < (t344.length : Int) then (if (rd t344 0) = t338 then (if (t344.length : Int) > t339 then (none) else (laws_FnProperRuns.l0 kj11 l1 t340 t344 t352 t353 1)) else (none)) else (none)) else (laws_FnProperRuns.j2 kj11 l1 t340 t352 t353)) = some r := by rw [if_neg (show ¬ (false = true) by decide)] at H; exact H
          clear H
          have H := H1
          clear H1
          have HC44 := Aside0.mk H
          clear H
          go_upto_if 129 with (fail)
          go_cut [] (fun wc => ∃ (kq : Nat), Aside0 (laws_FnProperRuns.j2 kq l1 t340 t352 t353 = some r) ∧ Aside0 (kq ≤ kj11) ∧ Aside0 (Kd.R (Kd.int .i64) 3 wc w.heap.size (fun _ => True) v354 t352) ∧ Aside0 (Below w.heap.size w wc))
          case first =>
            have H := HC44.out
            clear HC44
            by_cases c45 : t341 = true
            · subst c45
              have H1 : (if 0 < (t344.length : Int) then (if (rd t344 0) = t338 then (if (t344.length : Int) > t339 then (none) else (laws_FnProperRuns.l0 kj11 l1 t340 t344 t352 t353 1)) else (none)) else (none)) = some r := by rw [if_pos rfl] at H; exact H
              clear H
              have H := H1
              clear H1
              by_cases c46 : 0 < (t344.length : Int)
              · rw [if_pos c46] at H
                have c46b0 : decide (0 < (t344.length : Int)) = true := decide_eq_true c46
                have c46b1 : decide (0 < t344.length) = true := decide_eq_true (by omega)
                clear c46
                (first | rw [c46b0] | (simp only [i64_w, i32_w]; rw [c46b0]) | skip)
                by_cases c47 : (rd t344 0) = t338
                · rw [if_pos c47] at H
                  have c47b0 : ((rd t344 0) == t338) = true := beq_iff_eq.mpr c47
                  have c47b1 : ((rd t344 0) != t338) = false := bne_eq_false_iff_eq.mpr c47
                  clear c47
                  by_cases c48 : (t344.length : Int) > t339
                  · rw [if_pos c48] at H
                    exact absurd H (by simp)
                  · rw [if_neg c48] at H
                    have c48b0 : decide (t339 < (t344.length : Int)) = false := decide_eq_false c48
                    clear c48
                    have H' := Aside0.mk H
                    clear H
                    obtain ⟨Ao49, co49, eo49⟩ := Kd.R_slice HO_11.out
                    subst eo49
                    have p362 : 0 ≤ (0 : Int) := (by omega)
                    have q362 : 0 < (t344.length : Int) := of_decide_eq_true (by first | (with_reducible assumption) | assumption)
                    obtain ⟨ad362, e362, hx362_0⟩ := Kd.at_int (Kd.R_reads' HO_11.out).2.2 0 p362 q362
                    cases e362
                    have qi362 : (0 < t344.length) = True := eq_true (by omega)
                    (try rw [show ((0 : Int)).toNat = 0 from rfl] at hx362_0)
                    (try rw [Addr.add_zero'] at hx362_0)
                    replace p362 := eq_true p362
                    replace q362 := eq_true q362
                    go_wp2
                    go_loopg [19] kj11 (fun kq v19 w' => ∃ (x19_2 : Int), v19 = .int .i64 x19_2 ∧ Aside0 (laws_FnProperRuns.l0 kq l1 t340 t344 t352 t353 x19_2 = some r) ∧ Aside0 (kq ≤ kj11) ∧ Aside0 (Kd.R (Kd.int .i64) 3 w' w.heap.size (fun k_ => some k_ ≠ (v354 : Value).ownBlock) (.slice (some ad362) t344.length co49) t344) ∧ Aside0 (Kd.R (Kd.int .i64) 3 w' w.heap.size (fun k_ => some k_ ≠ ((.slice (some ad362) t344.length co49) : Value).ownBlock) v354 t352) ∧ Aside0 (Below w.heap.size w w'))
                    case atStart => exact ⟨(1), (by first | rfl | (simp; done) | (simp [*]; done)), H', ⟨Nat.le_refl _⟩, ⟨by (with_reducible repeat (first | apply Kd.R_alloc | apply Kd.R_drewN | apply Kd.R_drew)); exact HO_11.out⟩, ⟨by (with_reducible repeat (first | apply Kd.R_alloc | apply Kd.R_drewN | apply Kd.R_drew)); exact HO_15.out⟩, ⟨by repeat (first | (with_reducible first | exact HB.out | apply below_alloc | apply pw_below_drewN | apply below_drew1) | exact HB.out)⟩⟩
                    case round =>
                      clear H'
                      try clear c1
                      try clear c2
                      try clear p2
                      try clear c3
                      try clear p3
                      try clear q3
                      try clear hx3
                      try clear qi3
                      try clear c4
                      try clear c5
                      try clear c6
                      try clear c9
                      try clear c20
                      try clear c20b0
                      try clear c20b1
                      try clear c20b2
                      try clear c21
                      try clear c21b0
                      try clear c21b1
                      try clear c22
                      try clear c22b0
                      try clear c22b1
                      try clear c22b2
                      try clear c24
                      try clear c25
                      try clear c25b0
                      try clear c25b1
                      try clear c25b2
                      try clear c27
                      try clear c28
                      try clear c28b0
                      try clear c28b1
                      try clear c28b2
                      try clear c29
                      try clear c30
                      try clear c30b0
                      try clear p36
                      try clear q36
                      try clear hx36
                      try clear qi36
                      try clear c43
                      try clear c45
                      try clear c46
                      try clear c46b0
                      try clear c46b1
                      try clear c47
                      try clear c47b0
                      try clear c47b1
                      try clear c48
                      try clear c48b0
                      try clear c49
                      try clear hx362_0
                      try clear p2
                      try clear p362
                      try clear q362
                      obtain ⟨x19_2, rfl, HA, HK2, HO_11, HO_15, HB⟩ := hrel
                      cases gk with
                      | zero => exact absurd HA.out (by simp [laws_FnProperRuns.l0])
                      | succ k2 =>
                        have H := HA.out
                        clear HA
                        simp only [laws_FnProperRuns.l0] at H
                        by_cases c50 : x19_2 < (t344.length : Int)
                        · rw [if_pos c50] at H
                          have c50b0 : decide (x19_2 < (t344.length : Int)) = true := decide_eq_true c50
                          clear c50
                          obtain ⟨ji51, hji51⟩ : ∃ j_ : Int, (wrap64 (x19_2 - 1)) = j_ := ⟨_, rfl⟩
                          replace H : (if 0 ≤ (ji51) then (if (ji51) < (t344.length : Int) then ((impl_ProperSum.f k2 (rd t344 (ji51))).bind fun bt364 => (if bt364.2 = true then (if 0 ≤ x19_2 then (if bt364.1 = (rd t344 x19_2) then (laws_FnProperRuns.l0 k2 l1 t340 t344 t352 t353 (wrap64 (x19_2 + 1))) else (none)) else (none)) else (none))) else (none)) else (none)) = some r := by first | (rw [hji51] at H; exact H) | (simp only [hji51] at H ⊢; exact H)
                          have hji51w : (IntKind.i64.wrap (x19_2 - 1)) = ji51 := (i64_w _).trans hji51
                          by_cases c52 : 0 ≤ (ji51)
                          · rw [if_pos c52] at H
                            have c52b0 : decide (0 ≤ (ji51)) = true := decide_eq_true c52
                            clear c52
                            by_cases c53 : (ji51) < (t344.length : Int)
                            · rw [if_pos c53] at H
                              have c53b0 : decide ((ji51) < (t344.length : Int)) = true := decide_eq_true c53
                              clear c53
                              replace H := Option.bind_eq_some_iff.mp H
                              obtain ⟨⟨t364, t365⟩, A540, H⟩ := H
                              replace H : (if t365 = true then (if 0 ≤ x19_2 then (if t364 = (rd t344 x19_2) then (laws_FnProperRuns.l0 k2 l1 t340 t344 t352 t353 (wrap64 (x19_2 + 1))) else (none)) else (none)) else (none)) = some r := H
                              have A54 := Aside0.mk A540
                              clear A540
                              by_cases c55 : t365 = true
                              · subst c55
                                have H1 : (if 0 ≤ x19_2 then (if t364 = (rd t344 x19_2) then (laws_FnProperRuns.l0 k2 l1 t340 t344 t352 t353 (wrap64 (x19_2 + 1))) else (none)) else (none)) = some r := by rw [if_pos rfl] at H; exact H
                                clear H
                                have H := H1
                                clear H1
                                by_cases c56 : 0 ≤ x19_2
                                · rw [if_pos c56] at H
                                  have c56b0 : decide (0 ≤ x19_2) = true := decide_eq_true c56
                                  clear c56
                                  by_cases c57 : t364 = (rd t344 x19_2)
                                  · rw [if_pos c57] at H
                                    have c57b0 : (t364 == (rd t344 x19_2)) = true := beq_iff_eq.mpr c57
                                    have c57b1 : (t364 != (rd t344 x19_2)) = false := bne_eq_false_iff_eq.mpr c57
                                    clear c57
                                    as_aux_lemma =>
                                      have H' := Aside0.mk H
                                      clear H
                                      have p363 : 0 ≤ ((ji51) : Int) := of_decide_eq_true (by first | (with_reducible assumption) | assumption)
                                      have q363 : (ji51) < (t344.length : Int) := of_decide_eq_true (by first | (with_reducible assumption) | assumption)
                                      obtain ⟨ad363, e363, hx363_0⟩ := Kd.at_int (Kd.R_reads' HO_11.out).2.2 (ji51) p363 q363
                                      obtain rfl : ad362 = ad363 := (by injection e363)
                                      replace p363 := eq_true p363
                                      replace q363 := eq_true q363
                                      go_wp2_with (first | ((with_reducible refine gate_callee (f := 56) rfl ?_); refine goesL_ (some 153) rfl rfl Try.func56 (by kernel_rfl) rfl #[.int .i64 (rd t344 (ji51))] rfl (by (try simp only [List.map_toArray, List.map_cons, List.map_nil]); first | done | (simp only [hji51]; rfl) | rfl | (simp only [List.length_drop, List.length_take]; rfl)) ?_; (with_reducible refine (impl_ProperSum.calls k2 (rd t344 (ji51)) t364 true _ A54.out).mono ?_); rintro e w58 ⟨rfl, hb⟩; refine ⟨_, rfl, ?_⟩; have n0_ := Aside0.mk (Kd.R_below (by (with_reducible repeat (first | apply Kd.R_alloc | apply Kd.R_drewN | apply Kd.R_drew)); exact HO_11.out) hb); have n1_ := Aside0.mk (Kd.R_below (by (with_reducible repeat (first | apply Kd.R_alloc | apply Kd.R_drewN | apply Kd.R_drew)); exact HO_15.out) hb); have n2_ := Aside0.mk (below_step (by repeat (first | (with_reducible first | exact HB.out | apply below_alloc | apply pw_below_drewN | apply below_drew1) | exact HB.out)) hb); clear HO_11; clear HO_15; clear HB; have HO_11 := n0_; have HO_15 := n1_; have HB := n2_; clear n0_ n1_ n2_; (try clear hb); (try clear hb2); (try clear hk); (try clear hi); have p366 : 0 ≤ (x19_2 : Int) := of_decide_eq_true (by first | (with_reducible assumption) | assumption); have q366 : x19_2 < (t344.length : Int) := of_decide_eq_true (by first | (with_reducible assumption) | assumption); obtain ⟨ad366, e366, hx366_0⟩ := Kd.at_int (Kd.R_reads' HO_11.out).2.2 x19_2 p366 q366; obtain rfl : ad362 = ad366 := (by injection e366); replace p366 := eq_true p366; replace q366 := eq_true q366))
                                      go_roundg k2
                                      case measure => have := HJ11.out; have := HK2.out; omega
                                      case rel => exact ⟨(wrap64 (x19_2 + 1)), (by first | rfl | (simp; done) | (simp [*]; done)), H', ⟨by have := HJ11.out; have := HK2.out; omega⟩, ⟨by (with_reducible repeat (first | apply Kd.R_alloc | apply Kd.R_drewN | apply Kd.R_drew)); exact HO_11.out⟩, ⟨by (with_reducible repeat (first | apply Kd.R_alloc | apply Kd.R_drewN | apply Kd.R_drew)); exact HO_15.out⟩, ⟨by repeat (first | (with_reducible first | exact HB.out | apply below_alloc | apply pw_below_drewN | apply below_drew1) | exact HB.out)⟩⟩
                                  · rw [if_neg c57] at H
                                    exact absurd H (by simp)
                                · rw [if_neg c56] at H
                                  exact absurd H (by simp)
                              · replace c55 := Bool.eq_false_iff.mpr c55
                                subst c55
                                have H1 : (none) = some r := by rw [if_neg (show ¬ (false = true) by decide)] at H; exact H
                                clear H
                                have H := H1
                                clear H1
                                exact absurd H (by simp)
                            · rw [if_neg c53] at H
                              exact absurd H (by simp)
                          · rw [if_neg c52] at H
                            exact absurd H (by simp)
                        · rw [if_neg c50] at H
                          have c50b0 : decide (x19_2 < (t344.length : Int)) = false := decide_eq_false c50
                          clear c50
                          obtain ⟨ji59, hji59⟩ : ∃ j_ : Int, (wrap64 ((t344.length : Int) - 1)) = j_ := ⟨_, rfl⟩
                          replace H : (if 0 ≤ (ji59) then (if (ji59) < (t344.length : Int) then ((impl_ProperSum.f k2 (rd t344 (ji59))).bind fun bt368 => (if bt368.2 = true then (if ((t340 == 0) != (bt368.1 == 0)) = true then (none) else (if ((t340 == 4) != (decide (bt368.1 > 1000000000))) = true then (none) else (laws_FnProperRuns.j2 k2 l1 t340 t352 t353))) else (none))) else (none)) else (none)) = some r := by first | (rw [hji59] at H; exact H) | (simp only [hji59] at H ⊢; exact H)
                          have hji59w : (IntKind.i64.wrap ((t344.length : Int) - 1)) = ji59 := (i64_w _).trans hji59
                          by_cases c60 : 0 ≤ (ji59)
                          · rw [if_pos c60] at H
                            have c60b0 : decide (0 ≤ (ji59)) = true := decide_eq_true c60
                            clear c60
                            by_cases c61 : (ji59) < (t344.length : Int)
                            · rw [if_pos c61] at H
                              have c61b0 : decide ((ji59) < (t344.length : Int)) = true := decide_eq_true c61
                              clear c61
                              replace H := Option.bind_eq_some_iff.mp H
                              obtain ⟨⟨t368, t369⟩, A620, H⟩ := H
                              replace H : (if t369 = true then (if ((t340 == 0) != (t368 == 0)) = true then (none) else (if ((t340 == 4) != (decide (t368 > 1000000000))) = true then (none) else (laws_FnProperRuns.j2 k2 l1 t340 t352 t353))) else (none)) = some r := H
                              have A62 := Aside0.mk A620
                              clear A620
                              by_cases c63 : t369 = true
                              · subst c63
                                have H1 : (if ((t340 == 0) != (t368 == 0)) = true then (none) else (if ((t340 == 4) != (decide (t368 > 1000000000))) = true then (none) else (laws_FnProperRuns.j2 k2 l1 t340 t352 t353))) = some r := by rw [if_pos rfl] at H; exact H
                                clear H
                                have H := H1
                                clear H1
                                by_cases c64 : ((t340 == 0) != (t368 == 0)) = true
                                · rw [if_pos c64] at H
                                  exact absurd H (by simp)
                                · rw [if_neg c64] at H
                                  have c64b0 : ((t340 == 0) != (t368 == 0)) = false := by simpa using c64
                                  (try (have c64b1 : decide ((t340 == 0) = (t368 == 0)) = true := by simpa using c64))
                                  (try (have c64b2 : ((t340 == 0) == (t368 == 0)) = true := by simpa using c64))
                                  clear c64
                                  by_cases c65 : ((t340 == 4) != (decide (t368 > 1000000000))) = true
                                  · rw [if_pos c65] at H
                                    exact absurd H (by simp)
                                  · rw [if_neg c65] at H
                                    have c65b0 : ((t340 == 4) != (decide (t368 > 1000000000))) = false := by simpa using c65
                                    (try (have c65b1 : decide ((t340 == 4) = (decide (t368 > 1000000000))) = true := by simpa using c65))
                                    (try (have c65b2 : ((t340 == 4) == (decide (t368 > 1000000000))) = true := by simpa using c65))
                                    clear c65
                                    as_aux_lemma =>
                                      have H' := Aside0.mk H
                                      clear H
                                      have p367 : 0 ≤ ((ji59) : Int) := of_decide_eq_true (by first | (with_reducible assumption) | assumption)
                                      have q367 : (ji59) < (t344.length : Int) := of_decide_eq_true (by first | (with_reducible assumption) | assumption)
                                      obtain ⟨ad367, e367, hx367_0⟩ := Kd.at_int (Kd.R_reads' HO_11.out).2.2 (ji59) p367 q367
                                      obtain rfl : ad362 = ad367 := (by injection e367)
                                      replace p367 := eq_true p367
                                      replace q367 := eq_true q367
                                      go_wp2_with (first | ((with_reducible refine gate_callee (f := 56) rfl ?_); refine goesL_ (some 173) rfl rfl Try.func56 (by kernel_rfl) rfl #[.int .i64 (rd t344 (ji59))] rfl (by (try simp only [List.map_toArray, List.map_cons, List.map_nil]); first | done | (simp only [hji59]; rfl) | rfl | (simp only [List.length_drop, List.length_take]; rfl)) ?_; (with_reducible refine (impl_ProperSum.calls k2 (rd t344 (ji59)) t368 true _ A62.out).mono ?_); rintro e w66 ⟨rfl, hb⟩; refine ⟨_, rfl, ?_⟩; have n0_ := Aside0.mk (Kd.R_below (by (with_reducible repeat (first | apply Kd.R_alloc | apply Kd.R_drewN | apply Kd.R_drew)); exact HO_11.out) hb); have n1_ := Aside0.mk (Kd.R_below (by (with_reducible repeat (first | apply Kd.R_alloc | apply Kd.R_drewN | apply Kd.R_drew)); exact HO_15.out) hb); have n2_ := Aside0.mk (below_step (by repeat (first | (with_reducible first | exact HB.out | apply below_alloc | apply pw_below_drewN | apply below_drew1) | exact HB.out)) hb); clear HO_11; clear HO_15; clear HB; have HO_11 := n0_; have HO_15 := n1_; have HB := n2_; clear n0_ n1_ n2_; (try clear hb); (try clear hb2); (try clear hk); (try clear hi)))
                                      go_meet
                                      case rel => exact ⟨_, H', ⟨by have := HJ11.out; have := HK2.out; first | omega | exact Nat.le_refl _⟩, ⟨by (with_reducible repeat (first | apply Kd.R_alloc | apply Kd.R_drewN | apply Kd.R_drew)); exact Kd.R_mono HO_15.out (fun _ hk => trivial)⟩, ⟨by repeat (first | (with_reducible first | exact HB.out | apply below_alloc | apply pw_below_drewN | apply below_drew1) | exact HB.out)⟩⟩
                              · replace c63 := Bool.eq_false_iff.mpr c63
                                subst c63
                                have H1 : (none) = some r := by rw [if_neg (show ¬ (false = true) by decide)] at H; exact H
                                clear H
                                have H := H1
                                clear H1
                                exact absurd H (by simp)
                            · rw [if_neg c61] at H
                              exact absurd H (by simp)
                          · rw [if_neg c60] at H
                            exact absurd H (by simp)
                · rw [if_neg c47] at H
                  exact absurd H (by simp)
              · rw [if_neg c46] at H
                exact absurd H (by simp)
            · replace c45 := Bool.eq_false_iff.mpr c45
              subst c45
              have H1 : (laws_FnProperRuns.j2 kj11 l1 t340 t352 t353) = some r := by rw [if_neg (show ¬ (false = true) by decide)] at H; exact H
              clear H
              have H := H1
              clear H1
              as_aux_lemma =>
                have H' := Aside0.mk H
                clear H
                go_wp2
                go_meet
                case rel => exact ⟨_, H', ⟨by have := HJ11.out; first | omega | exact Nat.le_refl _⟩, ⟨by (with_reducible repeat (first | apply Kd.R_alloc | apply Kd.R_drewN | apply Kd.R_drew)); exact Kd.R_mono HO_15.out (fun _ hk => trivial)⟩, ⟨by repeat (first | (with_reducible first | exact HB.out | apply below_alloc | apply pw_below_drewN | apply below_drew1) | exact HB.out)⟩⟩
          case rest =>
            clear HC44
            try clear c1
            try clear c2
            try clear p2
            try clear c3
            try clear p3
            try clear q3
            try clear hx3
            try clear qi3
            try clear c4
            try clear c5
            try clear c6
            try clear p6
            try clear c9
            try clear c20
            try clear c20b0
            try clear c20b1
            try clear c20b2
            try clear c21
            try clear c21b0
            try clear c21b1
            try clear c22
            try clear c22b0
            try clear c22b1
            try clear c22b2
            try clear c24
            try clear c25
            try clear c25b0
            try clear c25b1
            try clear c25b2
            try clear c27
            try clear c28
            try clear c28b0
            try clear c28b1
            try clear c28b2
            try clear c29
            try clear c30
            try clear c30b0
            try clear p36
            try clear q36
            try clear hx36
            try clear qi36
            try clear c43
            try clear c45
            try clear c46
            try clear c46b0
            try clear c46b1
            try clear c47
            try clear c47b0
            try clear c47b1
            try clear c48
            try clear c48b0
            try clear c49
            try clear c50
            try clear c50b0
            try clear c51
            try clear c52
            try clear c52b0
            try clear c53
            try clear c53b0
            try clear c54
            try clear c55
            try clear c56
            try clear c56b0
            try clear c57
            try clear c57b0
            try clear c57b1
            try clear c60
            try clear c60b0
            try clear c61
            try clear c61b0
            try clear c63
            try clear c64
            try clear c64b0
            try clear c64b1
            try clear c64b2
            try clear p64
            try clear c65
            try clear c65b0
            try clear c65b1
            try clear c65b2
            try clear hx362_0
            try clear hx363_0
            try clear hx366_0
            try clear hx367_0
            try clear p2
            try clear p3
            try clear p36
            try clear p362
            try clear p363
            try clear p366
            try clear p367
            try clear q3
            try clear q36
            try clear q362
            try clear q363
            try clear q366
            try clear q367
            obtain ⟨kq, HA, HJ43, HO_15, HB⟩ := hcut
            cases kq with
            | zero => exact absurd HA.out (by simp [laws_FnProperRuns.j2])
            | succ kj43 =>
              have H := HA.out
              clear HA
              simp only [laws_FnProperRuns.j2] at H
              have HC67 := Aside0.mk H
              clear H
              go_upto_if 192 with (fail)
              go_cut [] (fun wc => ∃ (kq : Nat), Aside0 (laws_FnProperRuns.j5 kq l1 = some r) ∧ Aside0 (kq ≤ kj43) ∧ Aside0 (Below w.heap.size w wc))
              case first =>
                have H := HC67.out
                clear HC67
                by_cases c68 : t353 = true
                · subst c68
                  have H1 : (laws_FnProperRuns.l1 kj43 l1 t340 t352 t352 (t352.length : Int) 0) = some r := by rw [if_pos rfl] at H; exact H
                  clear H
                  have H := H1
                  clear H1
                  have H' := Aside0.mk H
                  clear H
                  obtain ⟨Ao69, co69, eo69⟩ := Kd.R_slice HO_15.out
                  subst eo69
                  go_wp2
                  go_loopg [195] kj43 (fun kq v195 w' => ∃ (x195_3 : Int), v195 = .int .i64 x195_3 ∧ Aside0 (laws_FnProperRuns.l1 kq l1 t340 t352 t352 (t352.length : Int) x195_3 = some r) ∧ Aside0 (kq ≤ kj43) ∧ Aside0 (Kd.R (Kd.int .i64) 3 w' w.heap.size (fun _ => True) (.slice Ao69 t352.length co69) t352) ∧ Aside0 (Kd.R (Kd.int .i64) 3 w' w.heap.size (fun _ => True) (.slice Ao69 t352.length co69) t352) ∧ Aside0 (Below w.heap.size w w'))
                  case atStart => exact ⟨(0), (by first | rfl | (simp; done) | (simp [*]; done)), H', ⟨Nat.le_refl _⟩, ⟨by (with_reducible repeat (first | apply Kd.R_alloc | apply Kd.R_drewN | apply Kd.R_drew)); exact HO_15.out⟩, ⟨by (with_reducible repeat (first | apply Kd.R_alloc | apply Kd.R_drewN | apply Kd.R_drew)); exact HO_15.out⟩, ⟨by repeat (first | (with_reducible first | exact HB.out | apply below_alloc | apply pw_below_drewN | apply below_drew1) | exact HB.out)⟩⟩
                  case round =>
                    clear H'
                    try clear c1
                    try clear c2
                    try clear p2
                    try clear c3
                    try clear p3
                    try clear q3
                    try clear hx3
                    try clear qi3
                    try clear c4
                    try clear c5
                    try clear c6
                    try clear p6
                    try clear c9
                    try clear c20
                    try clear c20b0
                    try clear c20b1
                    try clear c20b2
                    try clear c21
                    try clear c21b0
                    try clear c21b1
                    try clear c22
                    try clear c22b0
                    try clear c22b1
                    try clear c22b2
                    try clear c24
                    try clear c25
                    try clear c25b0
                    try clear c25b1
                    try clear c25b2
                    try clear c27
                    try clear c28
                    try clear c28b0
                    try clear c28b1
                    try clear c28b2
                    try clear c29
                    try clear c30
                    try clear c30b0
                    try clear p36
                    try clear q36
                    try clear hx36
                    try clear qi36
                    try clear c43
                    try clear c45
                    try clear c46
                    try clear c46b0
                    try clear c46b1
                    try clear c47
                    try clear c47b0
                    try clear c47b1
                    try clear c48
                    try clear c48b0
                    try clear c49
                    try clear c50
                    try clear c50b0
                    try clear c51
                    try clear c52
                    try clear c52b0
                    try clear c53
                    try clear c53b0
                    try clear c54
                    try clear c55
                    try clear c56
                    try clear c56b0
                    try clear c57
                    try clear c57b0
                    try clear c57b1
                    try clear c60
                    try clear c60b0
                    try clear c61
                    try clear c61b0
                    try clear c63
                    try clear c64
                    try clear c64b0
                    try clear c64b1
                    try clear c64b2
                    try clear p64
                    try clear c65
                    try clear c65b0
                    try clear c65b1
                    try clear c65b2
                    try clear c68
                    try clear hx362_0
                    try clear hx363_0
                    try clear hx366_0
                    try clear hx367_0
                    try clear p2
                    try clear p3
                    try clear p36
                    try clear p362
                    try clear p363
                    try clear p366
                    try clear p367
                    try clear p6
                    try clear p64
                    try clear q3
                    try clear q36
                    try clear q362
                    try clear q363
                    try clear q366
                    try clear q367
                    obtain ⟨x195_3, rfl, HA, HK3, HO_15, HO_193, HB⟩ := hrel
                    cases gk with
                    | zero => exact absurd HA.out (by simp [laws_FnProperRuns.l1])
                    | succ k3 =>
                      have H := HA.out
                      clear HA
                      simp only [laws_FnProperRuns.l1] at H
                      by_cases c70 : x195_3 < (t352.length : Int)
                      · rw [if_pos c70] at H
                        have c70b0 : decide (x195_3 < (t352.length : Int)) = true := decide_eq_true c70
                        clear c70
                        (first | rw [c70b0] | (simp only [i64_w, i32_w]; rw [c70b0]) | skip)
                        by_cases c71 : 0 ≤ x195_3
                        · rw [if_pos c71] at H
                          have c71b0 : decide (0 ≤ x195_3) = true := decide_eq_true c71
                          clear c71
                          by_cases c72 : x195_3 < (t352.length : Int)
                          · rw [if_pos c72] at H
                            have c72b0 : decide (x195_3 < (t352.length : Int)) = true := decide_eq_true c72
                            clear c72
                            replace H := Option.bind_eq_some_iff.mp H
                            obtain ⟨⟨t371, t372⟩, A730, H⟩ := H
                            replace H : (if t372 = true then (if (t352.length : Int) = 0 then (none) else (if 0 ≤ (Int.tmod (wrap64 (x195_3 + 1)) (t352.length : Int)) then (if (Int.tmod (wrap64 (x195_3 + 1)) (t352.length : Int)) < (t352.length : Int) then (if t371 = (rd t352 (Int.tmod (wrap64 (x195_3 + 1)) (t352.length : Int))) then (if 0 < (t352.length : Int) then (if (rd t352 x195_3) < (rd t352 0) then (none) else (laws_FnProperRuns.l1 k3 l1 t340 t352 t352 (t352.length : Int) (wrap64 (x195_3 + 1)))) else (none)) else (none)) else (none)) else (none))) else (none)) = some r := H
                            have A73 := Aside0.mk A730
                            clear A730
                            by_cases c74 : t372 = true
                            · subst c74
                              have H1 : (if (t352.length : Int) = 0 then (none) else (if 0 ≤ (Int.tmod (wrap64 (x195_3 + 1)) (t352.length : Int)) then (if (Int.tmod (wrap64 (x195_3 + 1)) (t352.length : Int)) < (t352.length : Int) then (if t371 = (rd t352 (Int.tmod (wrap64 (x195_3 + 1)) (t352.length : Int))) then (if 0 < (t352.length : Int) then (if (rd t352 x195_3) < (rd t352 0) then (none) else (laws_FnProperRuns.l1 k3 l1 t340 t352 t352 (t352.length : Int) (wrap64 (x195_3 + 1)))) else (none)) else (none)) else (none)) else (none))) = some r := by rw [if_pos rfl] at H; exact H
                              clear H
                              have H := H1
                              clear H1
                              by_cases c75 : (t352.length : Int) = 0
                              · rw [if_pos c75] at H
                                exact absurd H (by simp)
                              · rw [if_neg c75] at H
                                have c75b0 : ((t352.length : Int) == 0) = false := beq_eq_false_iff_ne.mpr c75
                                have c75b1 : ((t352.length : Int) != 0) = true := bne_iff_ne.mpr c75
                                have c75b2 : ¬ (t352 = []) := fun h_ => c75 (by rw [h_]; rfl)
                                obtain ⟨ji76, hji76⟩ : ∃ j_ : Int, (Int.tmod (wrap64 (x195_3 + 1)) (t352.length : Int)) = j_ := ⟨_, rfl⟩
                                replace H : (if 0 ≤ (ji76) then (if (ji76) < (t352.length : Int) then (if t371 = (rd t352 (ji76)) then (if 0 < (t352.length : Int) then (if (rd t352 x195_3) < (rd t352 0) then (none) else (laws_FnProperRuns.l1 k3 l1 t340 t352 t352 (t352.length : Int) (wrap64 (x195_3 + 1)))) else (none)) else (none)) else (none)) else (none)) = some r := by first | (rw [hji76] at H; exact H) | (simp only [hji76] at H ⊢; exact H)
                                (try rw [hji76] at A73)
                                by_cases c77 : 0 ≤ (ji76)
                                · rw [if_pos c77] at H
                                  have c77b0 : decide (0 ≤ (ji76)) = true := decide_eq_true c77
                                  clear c77
                                  by_cases c78 : (ji76) < (t352.length : Int)
                                  · rw [if_pos c78] at H
                                    have c78b0 : decide ((ji76) < (t352.length : Int)) = true := decide_eq_true c78
                                    clear c78
                                    by_cases c79 : t371 = (rd t352 (ji76))
                                    · rw [if_pos c79] at H
                                      have c79b0 : (t371 == (rd t352 (ji76))) = true := beq_iff_eq.mpr c79
                                      have c79b1 : (t371 != (rd t352 (ji76))) = false := bne_eq_false_iff_eq.mpr c79
                                      clear c79
                                      by_cases c80 : 0 < (t352.length : Int)
                                      · rw [if_pos c80] at H
                                        have c80b0 : decide (0 < (t352.length : Int)) = true := decide_eq_true c80
                                        have c80b1 : decide (0 < t352.length) = true := decide_eq_true (by omega)
                                        clear c80
                                        by_cases c81 : (rd t352 x195_3) < (rd t352 0)
                                        · rw [if_pos c81] at H
                                          exact absurd H (by simp)
                                        · rw [if_neg c81] at H
                                          have c81b0 : decide ((rd t352 x195_3) < (rd t352 0)) = false := decide_eq_false c81
                                          clear c81
                                          as_aux_lemma =>
                                            have H' := Aside0.mk H
                                            clear H
                                            have p370 : 0 ≤ (x195_3 : Int) := of_decide_eq_true (by first | (with_reducible assumption) | assumption)
                                            have q370 : x195_3 < (t352.length : Int) := of_decide_eq_true (by first | (with_reducible assumption) | assumption)
                                            obtain ⟨ad370, e370, hx370_0⟩ := Kd.at_int (Kd.R_reads' HO_193.out).2.2 x195_3 p370 q370
                                            cases e370
                                            replace p370 := eq_true p370
                                            replace q370 := eq_true q370
                                            go_wp2_with (first | ((with_reducible refine gate_callee (f := 56) rfl ?_); refine goesL_ (some 202) rfl rfl Try.func56 (by kernel_rfl) rfl #[.int .i64 (rd t352 x195_3)] rfl (by (try simp only [List.map_toArray, List.map_cons, List.map_nil]); first | done | rfl | (simp only [List.length_drop, List.length_take]; rfl)) ?_; (with_reducible refine (impl_ProperSum.calls k3 (rd t352 x195_3) t371 true _ A73.out).mono ?_); rintro e w82 ⟨rfl, hb⟩; refine ⟨_, rfl, ?_⟩; have n0_ := Aside0.mk (Kd.R_below (by (with_reducible repeat (first | apply Kd.R_alloc | apply Kd.R_drewN | apply Kd.R_drew)); exact HO_15.out) hb); have n1_ := Aside0.mk (Kd.R_below (by (with_reducible repeat (first | apply Kd.R_alloc | apply Kd.R_drewN | apply Kd.R_drew)); exact HO_193.out) hb); have n2_ := Aside0.mk (below_step (by repeat (first | (with_reducible first | exact HB.out | apply below_alloc | apply pw_below_drewN | apply below_drew1) | exact HB.out)) hb); clear HO_15; clear HO_193; clear HB; have HO_15 := n0_; have HO_193 := n1_; have HB := n2_; clear n0_ n1_ n2_; (try clear hb); (try clear hb2); (try clear hk); (try clear hi); have p373 : 0 ≤ ((ji76) : Int) := of_decide_eq_true (by first | (with_reducible assumption) | assumption); have q373 : (ji76) < (t352.length : Int) := of_decide_eq_true (by first | (with_reducible assumption) | assumption); obtain ⟨ad373, e373, hx373_0⟩ := Kd.at_int (Kd.R_reads' HO_15.out).2.2 (ji76) p373 q373; obtain rfl : ad370 = ad373 := (by injection e373); replace p373 := eq_true p373; replace q373 := eq_true q373; have p374 : 0 ≤ (0 : Int) := (by omega); have q374 : 0 < (t352.length : Int) := of_decide_eq_true (by first | (with_reducible assumption) | assumption); obtain ⟨ad374, e374, hx374_0⟩ := Kd.at_int (Kd.R_reads' HO_15.out).2.2 0 p374 q374; obtain rfl : ad370 = ad374 := (by injection e374); have qi374 : (0 < t352.length) = True := eq_true (by omega); (try rw [show ((0 : Int)).toNat = 0 from rfl] at hx374_0); (try rw [Addr.add_zero'] at hx374_0); replace p374 := eq_true p374; replace q374 := eq_true q374))
                                            go_roundg k3
                                            case measure => have := HJ11.out; have := HJ43.out; have := HK3.out; omega
                                            case rel => exact ⟨(wrap64 (x195_3 + 1)), (by first | rfl | (simp; done) | (simp [*]; done)), H', ⟨by have := HJ11.out; have := HJ43.out; have := HK3.out; omega⟩, ⟨by (with_reducible repeat (first | apply Kd.R_alloc | apply Kd.R_drewN | apply Kd.R_drew)); exact HO_15.out⟩, ⟨by (with_reducible repeat (first | apply Kd.R_alloc | apply Kd.R_drewN | apply Kd.R_drew)); exact HO_193.out⟩, ⟨by repeat (first | (with_reducible first | exact HB.out | apply below_alloc | apply pw_below_drewN | apply below_drew1) | exact HB.out)⟩⟩
                                      · rw [if_neg c80] at H
                                        exact absurd H (by simp)
                                    · rw [if_neg c79] at H
                                      exact absurd H (by simp)
                                  · rw [if_neg c78] at H
                                    exact absurd H (by simp)
                                · rw [if_neg c77] at H
                                  exact absurd H (by simp)
                            · replace c74 := Bool.eq_false_iff.mpr c74
                              subst c74
                              have H1 : (none) = some r := by rw [if_neg (show ¬ (false = true) by decide)] at H; exact H
                              clear H
                              have H := H1
                              clear H1
                              exact absurd H (by simp)
                          · rw [if_neg c72] at H
                            exact absurd H (by simp)
                        · rw [if_neg c71] at H
                          exact absurd H (by simp)
                      · rw [if_neg c70] at H
                        have c70b0 : decide (x195_3 < (t352.length : Int)) = false := decide_eq_false c70
                        clear c70
                        (first | rw [c70b0] | (simp only [i64_w, i32_w]; rw [c70b0]) | skip)
                        by_cases c83 : 0 < (t352.length : Int)
                        · rw [if_pos c83] at H
                          have c83b0 : decide (0 < (t352.length : Int)) = true := decide_eq_true c83
                          have c83b1 : decide (0 < t352.length) = true := decide_eq_true (by omega)
                          clear c83
                          replace H := Option.bind_eq_some_iff.mp H
                          obtain ⟨⟨t376, t377⟩, A840, H⟩ := H
                          replace H : (if (t377 != ((t352.length : Int) == 2)) = true then (none) else (if t377 = true then (if 1 < (t352.length : Int) then (laws_FnProperRuns.j4 k3 l1 t340 t352 (t376 != (rd t352 1))) else (none)) else (laws_FnProperRuns.j4 k3 l1 t340 t352 false))) = some r := H
                          have A84 := Aside0.mk A840
                          clear A840
                          have HC85 := Aside0.mk H
                          clear H
                          have p375 : 0 ≤ (0 : Int) := (by omega)
                          have q375 : 0 < (t352.length : Int) := of_decide_eq_true (by first | (with_reducible assumption) | assumption)
                          obtain ⟨ad375, e375, hx375_0⟩ := Kd.at_int (Kd.R_reads' HO_15.out).2.2 0 p375 q375
                          cases e375
                          have qi375 : (0 < t352.length) = True := eq_true (by omega)
                          (try rw [show ((0 : Int)).toNat = 0 from rfl] at hx375_0)
                          (try rw [Addr.add_zero'] at hx375_0)
                          replace p375 := eq_true p375
                          replace q375 := eq_true q375
                          go_upto_region 33 with (first | ((with_reducible refine gate_callee (f := 57) rfl ?_); refine goesL_ (some 231) rfl rfl Try.func57 (by kernel_rfl) rfl #[.int .i64 (rd t352 0)] rfl (by (try simp only [List.map_toArray, List.map_cons, List.map_nil]); first | done | rfl | (simp only [List.length_drop, List.length_take]; rfl)) ?_; (with_reducible refine (impl_PartnerOf.calls k3 (rd t352 0) t376 t377 _ A84.out).mono ?_); rintro e w86 ⟨rfl, hb⟩; refine ⟨_, rfl, ?_⟩; have n0_ := Aside0.mk (Kd.R_below (by (with_reducible repeat (first | apply Kd.R_alloc | apply Kd.R_drewN | apply Kd.R_drew)); exact HO_15.out) hb); have n1_ := Aside0.mk (Kd.R_below (by (with_reducible repeat (first | apply Kd.R_alloc | apply Kd.R_drewN | apply Kd.R_drew)); exact HO_193.out) hb); have n2_ := Aside0.mk (below_step (by repeat (first | (with_reducible first | exact HB.out | apply below_alloc | apply pw_below_drewN | apply below_drew1) | exact HB.out)) hb); clear HO_15; clear HO_193; clear HB; have HO_15 := n0_; have HO_193 := n1_; have HB := n2_; clear n0_ n1_ n2_; (try clear hb); (try clear hb2); (try clear hk); (try clear hi)))
                          (try simp only [Act.put, List.setIfInBounds_toArray, List.set_cons_zero, List.set_cons_succ])
                          go_cut [248] (fun v248 wc => ∃ (kq : Nat) (x248_84 : Bool), v248 = .bool x248_84 ∧ Aside0 (laws_FnProperRuns.j4 kq l1 t340 t352 x248_84 = some r) ∧ Aside0 (kq ≤ k3) ∧ Aside0 (Kd.R (Kd.int .i64) 3 wc w.heap.size (fun _ => True) (.slice (some ad375) t352.length co69) t352) ∧ Aside0 (Below w.heap.size w wc))
                          case first =>
                            have H := HC85.out
                            clear HC85
                            by_cases c87 : (t377 != ((t352.length : Int) == 2)) = true
                            · rw [if_pos c87] at H
                              exact absurd H (by simp)
                            · rw [if_neg c87] at H
                              have c87b0 : (t377 != ((t352.length : Int) == 2)) = false := by simpa using c87
                              (try (have c87b1 : decide (t377 = ((t352.length : Int) == 2)) = true := by simpa using c87))
                              (try (have c87b2 : (t377 == ((t352.length : Int) == 2)) = true := by simpa using c87))
                              clear c87
                              (first | rw [c87b0] | (simp only [i64_w, i32_w]; rw [c87b0]) | skip)
                              by_cases c88 : t377 = true
                              · subst c88
                                have H1 : (if 1 < (t352.length : Int) then (laws_FnProperRuns.j4 k3 l1 t340 t352 (t376 != (rd t352 1))) else (none)) = some r := by rw [if_pos rfl] at H; exact H
                                clear H
                                have H := H1
                                clear H1
                                by_cases c89 : 1 < (t352.length : Int)
                                · rw [if_pos c89] at H
                                  have c89b0 : decide (1 < (t352.length : Int)) = true := decide_eq_true c89
                                  have c89b1 : decide (1 < t352.length) = true := decide_eq_true (by omega)
                                  clear c89
                                  as_aux_lemma =>
                                    have H' := Aside0.mk H
                                    clear H
                                    have p378 : 0 ≤ (1 : Int) := (by omega)
                                    have q378 : 1 < (t352.length : Int) := of_decide_eq_true (by first | (with_reducible assumption) | assumption)
                                    obtain ⟨ad378, e378, hx378_0⟩ := Kd.at_int (Kd.R_reads' HO_15.out).2.2 1 p378 q378
                                    obtain rfl : ad375 = ad378 := (by injection e378)
                                    (try simp only [show (1 : Int).toNat = 1 from rfl, Nat.reduceMul, Nat.reduceEqDiff, Go.Addr.add, ↓reduceIte] at hx378_0)
                                    have qi378 : (1 < t352.length) = True := eq_true (by omega)
                                    (try rw [show ((1 : Int)).toNat = 1 from rfl] at hx378_0)
                                    replace p378 := eq_true p378
                                    replace q378 := eq_true q378
                                    go_wp2
                                    go_meet
                                    case rel => exact ⟨_, ((t376 != (rd t352 1))), (by first | rfl | (simp; done) | (simp [*]; done)), H', ⟨by have := HJ11.out; have := HJ43.out; have := HK3.out; first | omega | exact Nat.le_refl _⟩, ⟨by (with_reducible repeat (first | apply Kd.R_alloc | apply Kd.R_drewN | apply Kd.R_drew)); exact HO_15.out⟩, ⟨by repeat (first | (with_reducible first | exact HB.out | apply below_alloc | apply pw_below_drewN | apply below_drew1) | exact HB.out)⟩⟩
                                · rw [if_neg c89] at H
                                  exact absurd H (by simp)
                              · replace c88 := Bool.eq_false_iff.mpr c88
                                subst c88
                                have H1 : (laws_FnProperRuns.j4 k3 l1 t340 t352 false) = some r := by rw [if_neg (show ¬ (false = true) by decide)] at H; exact H
                                clear H
                                have H := H1
                                clear H1
                                as_aux_lemma =>
                                  have H' := Aside0.mk H
                                  clear H
                                  go_wp2
                                  go_meet
                                  case rel => exact ⟨_, (false), (by first | rfl | (simp; done) | (simp [*]; done)), H', ⟨by have := HJ11.out; have := HJ43.out; have := HK3.out; first | omega | exact Nat.le_refl _⟩, ⟨by (with_reducible repeat (first | apply Kd.R_alloc | apply Kd.R_drewN | apply Kd.R_drew)); exact HO_15.out⟩, ⟨by repeat (first | (with_reducible first | exact HB.out | apply below_alloc | apply pw_below_drewN | apply below_drew1) | exact HB.out)⟩⟩
                          case rest =>
                            clear HC85
                            try clear c1
                            try clear c2
                            try clear p2
                            try clear c3
                            try clear p3
                            try clear q3
                            try clear hx3
                            try clear qi3
                            try clear c4
                            try clear c5
                            try clear c6
                            try clear p6
                            try clear c7
                            try clear c8
                            try clear c9
                            try clear c20
                            try clear c20b0
                            try clear c20b1
                            try clear c20b2
                            try clear c21
                            try clear c21b0
                            try clear c21b1
                            try clear c22
                            try clear c22b0
                            try clear c22b1
                            try clear c22b2
                            try clear c24
                            try clear c25
                            try clear c25b0
                            try clear c25b1
                            try clear c25b2
                            try clear c27
                            try clear c28
                            try clear c28b0
                            try clear c28b1
                            try clear c28b2
                            try clear c29
                            try clear c30
                            try clear c30b0
                            try clear p36
                            try clear q36
                            try clear hx36
                            try clear qi36
                            try clear p37
                            try clear q37
                            try clear hx37
                            try clear qi37
                            try clear c43
                            try clear c45
                            try clear c46
                            try clear c46b0
                            try clear c46b1
                            try clear c47
                            try clear c47b0
                            try clear c47b1
                            try clear c48
                            try clear c48b0
                            try clear c49
                            try clear c50
                            try clear c50b0
                            try clear c51
                            try clear c52
                            try clear c52b0
                            try clear c53
                            try clear c53b0
                            try clear c54
                            try clear c55
                            try clear c56
                            try clear c56b0
                            try clear c57
                            try clear c57b0
                            try clear c57b1
                            try clear c60
                            try clear c60b0
                            try clear c61
                            try clear c61b0
                            try clear c63
                            try clear c64
                            try clear c64b0
                            try clear c64b1
                            try clear c64b2
                            try clear p64
                            try clear c65
                            try clear c65b0
                            try clear c65b1
                            try clear c65b2
                            try clear c68
                            try clear c70
                            try clear c70b0
                            try clear c71
                            try clear c71b0
                            try clear c72
                            try clear c72b0
                            try clear c74
                            try clear c75
                            try clear c75b0
                            try clear c75b1
                            try clear c75b2
                            try clear c77
                            try clear c77b0
                            try clear c78
                            try clear c78b0
                            try clear c79
                            try clear c79b0
                            try clear c79b1
                            try clear c80
                            try clear c80b0
                            try clear c80b1
                            try clear c81
                            try clear c81b0
                            try clear c83
                            try clear c83b0
                            try clear c83b1
                            try clear c87
                            try clear c87b0
                            try clear c87b1
                            try clear c87b2
                            try clear c88
                            try clear c89
                            try clear c89b0
                            try clear c89b1
                            try clear hx362_0
                            try clear hx363_0
                            try clear hx366_0
                            try clear hx367_0
                            try clear hx370_0
                            try clear hx373_0
                            try clear hx374_0
                            try clear hx375_0
                            try clear hx378_0
                            try clear p2
                            try clear p3
                            try clear p36
                            try clear p362
                            try clear p363
                            try clear p366
                            try clear p367
                            try clear p370
                            try clear p373
                            try clear p374
                            try clear p375
                            try clear p378
                            try clear p6
                            try clear p64
                            try clear q3
                            try clear q36
                            try clear q362
                            try clear q363
                            try clear q366
                            try clear q367
                            try clear q370
                            try clear q373
                            try clear q374
                            try clear q375
                            try clear q378
                            obtain ⟨kq, x248_84, rfl, HA, HJ84, HO_15, HB⟩ := hcut
                            cases kq with
                            | zero => exact absurd HA.out (by simp [laws_FnProperRuns.j4])
                            | succ kj84 =>
                              have H := HA.out
                              clear HA
                              simp only [laws_FnProperRuns.j4] at H
                              by_cases c90 : x248_84 = true
                              · subst c90
                                have H1 : (none) = some r := by rw [if_pos rfl] at H; exact H
                                clear H
                                have H := H1
                                clear H1
                                exact absurd H (by simp)
                              · replace c90 := Bool.eq_false_iff.mpr c90
                                subst c90
                                have H1 : (if ((t340 == 1) != ((t352.length : Int) == 1)) = true then (none) else (if ((t340 == 2) != ((t352.length : Int) == 2)) = true then (none) else (laws_FnProperRuns.j5 kj84 l1))) = some r := by rw [if_neg (show ¬ (false = true) by decide)] at H; exact H
                                clear H
                                have H := H1
                                clear H1
                                by_cases c91 : ((t340 == 1) != ((t352.length : Int) == 1)) = true
                                · rw [if_pos c91] at H
                                  exact absurd H (by simp)
                                · rw [if_neg c91] at H
                                  have c91b0 : ((t340 == 1) != ((t352.length : Int) == 1)) = false := by simpa using c91
                                  (try (have c91b1 : decide ((t340 == 1) = ((t352.length : Int) == 1)) = true := by simpa using c91))
                                  (try (have c91b2 : ((t340 == 1) == ((t352.length : Int) == 1)) = true := by simpa using c91))
                                  clear c91
                                  by_cases c92 : ((t340 == 2) != ((t352.length : Int) == 2)) = true
                                  · rw [if_pos c92] at H
                                    exact absurd H (by simp)
                                  · rw [if_neg c92] at H
                                    have c92b0 : ((t340 == 2) != ((t352.length : Int) == 2)) = false := by simpa using c92
                                    (try (have c92b1 : decide ((t340 == 2) = ((t352.length : Int) == 2)) = true := by simpa using c92))
                                    (try (have c92b2 : ((t340 == 2) == ((t352.length : Int) == 2)) = true := by simpa using c92))
                                    clear c92
                                    as_aux_lemma =>
                                      have H' := Aside0.mk H
                                      clear H
                                      go_wp2
                                      go_meet
                                      case rel => exact ⟨_, H', ⟨by have := HJ11.out; have := HJ43.out; have := HK3.out; have := HJ84.out; first | omega | exact Nat.le_refl _⟩, ⟨by repeat (first | (with_reducible first | exact HB.out | apply below_alloc | apply pw_below_drewN | apply below_drew1) | exact HB.out)⟩⟩
                        · rw [if_neg c83] at H
                          exact absurd H (by simp)
                · replace c68 := Bool.eq_false_iff.mpr c68
                  subst c68
                  have H1 : (laws_FnProperRuns.j5 kj43 l1) = some r := by rw [if_neg (show ¬ (false = true) by decide)] at H; exact H
                  clear H
                  have H := H1
                  clear H1
                  as_aux_lemma =>
                    have H' := Aside0.mk H
                    clear H
                    go_wp2
                    go_meet
                    case rel => exact ⟨_, H', ⟨by have := HJ11.out; have := HJ43.out; first | omega | exact Nat.le_refl _⟩, ⟨by repeat (first | (with_reducible first | exact HB.out | apply below_alloc | apply pw_below_drewN | apply below_drew1) | exact HB.out)⟩⟩
              case rest =>
                clear HC67
                try clear c1
                try clear c2
                try clear p2
                try clear c3
                try clear p3
                try clear q3
                try clear hx3
                try clear qi3
                try clear c4
                try clear c5
                try clear c6
                try clear p6
                try clear c7
                try clear c8
                try clear c9
                try clear c20
                try clear c20b0
                try clear c20b1
                try clear c20b2
                try clear c21
                try clear c21b0
                try clear c21b1
                try clear c22
                try clear c22b0
                try clear c22b1
                try clear c22b2
                try clear c24
                try clear c25
                try clear c25b0
                try clear c25b1
                try clear c25b2
                try clear c27
                try clear c28
                try clear c28b0
                try clear c28b1
                try clear c28b2
                try clear c29
                try clear c30
                try clear c30b0
                try clear p36
                try clear q36
                try clear hx36
                try clear qi36
                try clear p37
                try clear q37
                try clear hx37
                try clear qi37
                try clear c43
                try clear c45
                try clear c46
                try clear c46b0
                try clear c46b1
                try clear c47
                try clear c47b0
                try clear c47b1
                try clear c48
                try clear c48b0
                try clear c49
                try clear c50
                try clear c50b0
                try clear c51
                try clear c52
                try clear c52b0
                try clear c53
                try clear c53b0
                try clear c54
                try clear c55
                try clear c56
                try clear c56b0
                try clear c57
                try clear c57b0
                try clear c57b1
                try clear c60
                try clear c60b0
                try clear c61
                try clear c61b0
                try clear c63
                try clear c64
                try clear c64b0
                try clear c64b1
                try clear c64b2
                try clear p64
                try clear c65
                try clear c65b0
                try clear c65b1
                try clear c65b2
                try clear c68
                try clear c70
                try clear c70b0
                try clear c71
                try clear c71b0
                try clear c72
                try clear c72b0
                try clear c74
                try clear c75
                try clear c75b0
                try clear c75b1
                try clear c75b2
                try clear c77
                try clear c77b0
                try clear c78
                try clear c78b0
                try clear c79
                try clear c79b0
                try clear c79b1
                try clear c80
                try clear c80b0
                try clear c80b1
                try clear c81
                try clear c81b0
                try clear c83
                try clear c83b0
                try clear c83b1
                try clear c87
                try clear c87b0
                try clear c87b1
                try clear c87b2
                try clear c88
                try clear c89
                try clear c89b0
                try clear c89b1
                try clear c90
                try clear c91
                try clear c91b0
                try clear c91b1
                try clear c91b2
                try clear c92
                try clear c92b0
                try clear c92b1
                try clear c92b2
                try clear hx362_0
                try clear hx363_0
                try clear hx366_0
                try clear hx367_0
                try clear hx370_0
                try clear hx373_0
                try clear hx374_0
                try clear hx375_0
                try clear hx378_0
                try clear p2
                try clear p3
                try clear p36
                try clear p362
                try clear p363
                try clear p366
                try clear p367
                try clear p37
                try clear p370
                try clear p373
                try clear p374
                try clear p375
                try clear p378
                try clear p6
                try clear p64
                try clear q3
                try clear q36
                try clear q362
                try clear q363
                try clear q366
                try clear q367
                try clear q37
                try clear q370
                try clear q373
                try clear q374
                try clear q375
                try clear q378
                obtain ⟨kq, HA, HJ66, HB⟩ := hcut
                cases kq with
                | zero => exact absurd HA.out (by simp [laws_FnProperRuns.j5])
                | succ kj66 =>
                  have H := HA.out
                  clear HA
                  simp only [laws_FnProperRuns.j5] at H
                  replace H := Option.bind_eq_some_iff.mp H
                  obtain ⟨t379, A930, H⟩ := H
                  replace H : ((impl_PartnerOf.f kj66 t379).bind fun bt380 => ((spec_PartnerOf.f kj66 t379).bind fun bt382 => (if (bt380.2 != bt382.2) = true then (none) else (if bt380.1 = bt382.1 then (if bt380.2 = true then ((impl_PartnerOf.f kj66 bt380.1).bind fun bt384 => (if bt384.2 = true then (if bt384.1 = t379 then (some (bt380.1 != t379)) else (none)) else (none))) else (some true)) else (none))))) = some r := H
                  have A93 := Aside0.mk A930
                  clear A930
                  replace H := Option.bind_eq_some_iff.mp H
                  obtain ⟨⟨t380, t381⟩, A940, H⟩ := H
                  replace H : ((spec_PartnerOf.f kj66 t379).bind fun bt382 => (if (t381 != bt382.2) = true then (none) else (if t380 = bt382.1 then (if t381 = true then ((impl_PartnerOf.f kj66 t380).bind fun bt384 => (if bt384.2 = true then (if bt384.1 = t379 then (some (t380 != t379)) else (none)) else (none))) else (some true)) else (none)))) = some r := H
                  have A94 := Aside0.mk A940
                  clear A940
                  replace H := Option.bind_eq_some_iff.mp H
                  obtain ⟨⟨t382, t383⟩, A950, H⟩ := H
                  replace H : (if (t381 != t383) = true then (none) else (if t380 = t382 then (if t381 = true then ((impl_PartnerOf.f kj66 t380).bind fun bt384 => (if bt384.2 = true then (if bt384.1 = t379 then (some (t380 != t379)) else (none)) else (none))) else (some true)) else (none))) = some r := H
                  have A95 := Aside0.mk A950
                  clear A950
                  by_cases c96 : (t381 != t383) = true
                  · rw [if_pos c96] at H
                    exact absurd H (by simp)
                  · rw [if_neg c96] at H
                    have c96b0 : (t381 != t383) = false := by simpa using c96
                    (try (have c96b1 : decide (t381 = t383) = true := by simpa using c96))
                    (try (have c96b2 : (t381 == t383) = true := by simpa using c96))
                    clear c96
                    by_cases c97 : t380 = t382
                    · rw [if_pos c97] at H
                      have c97b0 : (t380 == t382) = true := beq_iff_eq.mpr c97
                      have c97b1 : (t380 != t382) = false := bne_eq_false_iff_eq.mpr c97
                      clear c97
                      by_cases c98 : t381 = true
                      · subst c98
                        have H1 : ((impl_PartnerOf.f kj66 t380).bind fun bt384 => (if bt384.2 = true then (if bt384.1 = t379 then (some (t380 != t379)) else (none)) else (none))) = some r := by rw [if_pos rfl] at H; exact H
                        clear H
                        have H := H1
                        clear H1
                        replace H := Option.bind_eq_some_iff.mp H
                        obtain ⟨⟨t384, t385⟩, A990, H⟩ := H
                        replace H : (if t385 = true then (if t384 = t379 then (some (t380 != t379)) else (none)) else (none)) = some r := H
                        have A99 := Aside0.mk A990
                        clear A990
                        by_cases c100 : t385 = true
                        · subst c100
                          have H1 : (if t384 = t379 then (some (t380 != t379)) else (none)) = some r := by rw [if_pos rfl] at H; exact H
                          clear H
                          have H := H1
                          clear H1
                          by_cases c101 : t384 = t379
                          · rw [if_pos c101] at H
                            have c101b0 : (t384 == t379) = true := beq_iff_eq.mpr c101
                            have c101b1 : (t384 != t379) = false := bne_eq_false_iff_eq.mpr c101
                            clear c101
                            as_aux_lemma =>
                              obtain rfl := Option.some.inj H
                              go_wp2_with (first | ((with_reducible refine gate_callee (f := 58) rfl ?_); refine goesL_ (some 264) rfl rfl Try.func58 (by kernel_rfl) rfl #[.slice A1 l1.length c1] rfl (by (try simp only [List.map_toArray, List.map_cons, List.map_nil]); first | done | rfl | (simp only [List.length_drop, List.length_take]; rfl)) ?_; (with_reducible refine (spec_DrawPartnerOf.calls kj66 _ _ l1 t379 _ ?side1 ?side2 A93.out).mono ?_); (case side1 => repeat (first | exact (Kd.C_below HR1.out HB.out) | (with_reducible refine Kd.C_alloc ?_ _) | (with_reducible refine Kd.C_drewN ?_ _) | (with_reducible refine Kd.C_drew ?_))); (case side2 => exact HC1.out); rintro e w102 ⟨rfl, hb⟩; refine ⟨_, rfl, ?_⟩; have n0_ := Aside0.mk (below_step (by repeat (first | (with_reducible first | exact HB.out | apply below_alloc | apply pw_below_drewN | apply below_drew1) | exact HB.out)) hb); clear HB; have HB := n0_; clear n0_; (try clear hb); (try clear hb2); (try clear hk); (try clear hi)) | ((with_reducible refine gate_callee (f := 57) rfl ?_); refine goesL_ (some 267) rfl rfl Try.func57 (by kernel_rfl) rfl #[.int .i64 t379] rfl (by (try simp only [List.map_toArray, List.map_cons, List.map_nil]); first | done | rfl | (simp only [List.length_drop, List.length_take]; rfl)) ?_; (with_reducible refine (impl_PartnerOf.calls kj66 t379 t380 true _ A94.out).mono ?_); rintro e w103 ⟨rfl, hb⟩; refine ⟨_, rfl, ?_⟩; have n0_ := Aside0.mk (below_step (by repeat (first | (with_reducible first | exact HB.out | apply below_alloc | apply pw_below_drewN | apply below_drew1) | exact HB.out)) hb); clear HB; have HB := n0_; clear n0_; (try clear hb); (try clear hb2); (try clear hk); (try clear hi)) | ((with_reducible refine gate_callee (f := 59) rfl ?_); refine goesL_ (some 272) rfl rfl Try.func59 (by kernel_rfl) rfl #[.int .i64 t379] rfl (by (try simp only [List.map_toArray, List.map_cons, List.map_nil]); first | done | rfl | (simp only [List.length_drop, List.length_take]; rfl)) ?_; (with_reducible refine (spec_PartnerOf.calls kj66 t379 t382 t383 _ A95.out).mono ?_); rintro e w104 ⟨rfl, hb⟩; refine ⟨_, rfl, ?_⟩; have n0_ := Aside0.mk (below_step (by repeat (first | (with_reducible first | exact HB.out | apply below_alloc | apply pw_below_drewN | apply below_drew1) | exact HB.out)) hb); clear HB; have HB := n0_; clear n0_; (try clear hb); (try clear hb2); (try clear hk); (try clear hi)) | ((with_reducible refine gate_callee (f := 57) rfl ?_); refine goesL_ (some 286) rfl rfl Try.func57 (by kernel_rfl) rfl #[.int .i64 t380] rfl (by (try simp only [List.map_toArray, List.map_cons, List.map_nil]); first | done | rfl | (simp only [List.length_drop, List.length_take]; rfl)) ?_; (with_reducible refine (impl_PartnerOf.calls kj66 t380 t384 true _ A99.out).mono ?_); rintro e w105 ⟨rfl, hb⟩; refine ⟨_, rfl, ?_⟩; have n0_ := Aside0.mk (below_step (by repeat (first | (with_reducible first | exact HB.out | apply below_alloc | apply pw_below_drewN | apply below_drew1) | exact HB.out)) hb); clear HB; have HB := n0_; clear n0_; (try clear hb); (try clear hb2); (try clear hk); (try clear hi)))
                              go_ret
                              exact ⟨by first | rfl | (simp [errW_none, errW_some] <;> rfl) | (simp [*, errW_none, errW_some] <;> rfl), by repeat (first | (with_reducible first | exact HB.out | apply below_alloc | apply pw_below_drewN | apply below_drew1) | exact HB.out)⟩
                          · rw [if_neg c101] at H
                            exact absurd H (by simp)
                        · replace c100 := Bool.eq_false_iff.mpr c100
                          subst c100
                          have H1 : (none) = some r := by rw [if_neg (show ¬ (false = true) by decide)] at H; exact H
                          clear H
                          have H := H1
                          clear H1
                          exact absurd H (by simp)
                      · replace c98 := Bool.eq_false_iff.mpr c98
                        subst c98
                        have H1 : (some true) = some r := by rw [if_neg (show ¬ (false = true) by decide)] at H; exact H
                        clear H
                        have H := H1
                        clear H1
                        as_aux_lemma =>
                          obtain rfl := Option.some.inj H
                          go_wp2_with (first | ((with_reducible refine gate_callee (f := 58) rfl ?_); refine goesL_ (some 264) rfl rfl Try.func58 (by kernel_rfl) rfl #[.slice A1 l1.length c1] rfl (by (try simp only [List.map_toArray, List.map_cons, List.map_nil]); first | done | rfl | (simp only [List.length_drop, List.length_take]; rfl)) ?_; (with_reducible refine (spec_DrawPartnerOf.calls kj66 _ _ l1 t379 _ ?side1 ?side2 A93.out).mono ?_); (case side1 => repeat (first | exact (Kd.C_below HR1.out HB.out) | (with_reducible refine Kd.C_alloc ?_ _) | (with_reducible refine Kd.C_drewN ?_ _) | (with_reducible refine Kd.C_drew ?_))); (case side2 => exact HC1.out); rintro e w106 ⟨rfl, hb⟩; refine ⟨_, rfl, ?_⟩; have n0_ := Aside0.mk (below_step (by repeat (first | (with_reducible first | exact HB.out | apply below_alloc | apply pw_below_drewN | apply below_drew1) | exact HB.out)) hb); clear HB; have HB := n0_; clear n0_; (try clear hb); (try clear hb2); (try clear hk); (try clear hi)) | ((with_reducible refine gate_callee (f := 57) rfl ?_); refine goesL_ (some 267) rfl rfl Try.func57 (by kernel_rfl) rfl #[.int .i64 t379] rfl (by (try simp only [List.map_toArray, List.map_cons, List.map_nil]); first | done | rfl | (simp only [List.length_drop, List.length_take]; rfl)) ?_; (with_reducible refine (impl_PartnerOf.calls kj66 t379 t380 false _ A94.out).mono ?_); rintro e w107 ⟨rfl, hb⟩; refine ⟨_, rfl, ?_⟩; have n0_ := Aside0.mk (below_step (by repeat (first | (with_reducible first | exact HB.out | apply below_alloc | apply pw_below_drewN | apply below_drew1) | exact HB.out)) hb); clear HB; have HB := n0_; clear n0_; (try clear hb); (try clear hb2); (try clear hk); (try clear hi)) | ((with_reducible refine gate_callee (f := 59) rfl ?_); refine goesL_ (some 272) rfl rfl Try.func59 (by kernel_rfl) rfl #[.int .i64 t379] rfl (by (try simp only [List.map_toArray, List.map_cons, List.map_nil]); first | done | rfl | (simp only [List.length_drop, List.length_take]; rfl)) ?_; (with_reducible refine (spec_PartnerOf.calls kj66 t379 t382 t383 _ A95.out).mono ?_); rintro e w108 ⟨rfl, hb⟩; refine ⟨_, rfl, ?_⟩; have n0_ := Aside0.mk (below_step (by repeat (first | (with_reducible first | exact HB.out | apply below_alloc | apply pw_below_drewN | apply below_drew1) | exact HB.out)) hb); clear HB; have HB := n0_; clear n0_; (try clear hb); (try clear hb2); (try clear hk); (try clear hi)))
                          go_ret
                          exact ⟨by first | rfl | (simp [errW_none, errW_some] <;> rfl) | (simp [*, errW_none, errW_some] <;> rfl), by repeat (first | (with_reducible first | exact HB.out | apply below_alloc | apply pw_below_drewN | apply below_drew1) | exact HB.out)⟩
                    · rw [if_neg c97] at H
                      exact absurd H (by simp)

/-- THE ONE PURE STATEMENT of laws_FnProperRuns: yours. -/
def laws_FnProperRuns.Pure : Prop := ∀ (l0 : List Int) (l1 : List Int), l0.length ≤ maxLen → l0.length * 1 ≤ 140737488351232 → (∀ x ∈ l0, (Lit.int .u8 x).wf = true) → l1.length ≤ maxLen → l1.length * 1 ≤ 140737488351232 → (∀ x ∈ l1, (Lit.int .u8 x).wf = true) → ∃ k, laws_FnProperRuns.f k l0 l1 = some true
theorem laws_FnProperRuns.walk (P : laws_FnProperRuns.Pure) (a0 : Option Addr) (len0 cap0 : Nat) (z0 : List Int) (a1 : Option Addr) (len1 cap1 : Nat) (z1 : List Int) (w : World) (w0 : (a0 = none ∧ len0 = 0 ∧ cap0 = 0 ∧ z0 = []) ∨ ∃ x, a0 = some x ∧ len0 ≤ cap0 ∧ cap0 ≤ maxLen ∧ z0.length = cap0 ∧ (∀ i, i < z0.length → w.cell? (x.add i) = some (.int .u8 (z0.getD i 0))) ∧ ∀ n ∈ z0, (Lit.int .u8 n).wf = true) (y0 : len0 * 1 ≤ 140737488351232) (w1 : (a1 = none ∧ len1 = 0 ∧ cap1 = 0 ∧ z1 = []) ∨ ∃ x, a1 = some x ∧ len1 ≤ cap1 ∧ cap1 ≤ maxLen ∧ z1.length = cap1 ∧ (∀ i, i < z1.length → w.cell? (x.add i) = some (.int .u8 (z1.getD i 0))) ∧ ∀ n ∈ z1, (Lit.int .u8 n).wf = true) (y1 : len1 * 1 ≤ 140737488351232) :
    Calls Try.prog 6 #[.slice a0 len0 cap0, .slice a1 len1 cap1] w fun e w' => e = .returned (.bool true) ∧ Below w.heap.size w w' := by
  obtain ⟨l0, rfl, hr0, hm0, hw0, hc0⟩ := ReadsInt.ofRowC w0
  obtain ⟨l1, rfl, hr1, hm1, hw1, hc1⟩ := ReadsInt.ofRowC w1
  obtain ⟨k, h⟩ := P l0 l1 hm0 y0 hw0 hm1 y1 hw1
  refine (laws_FnProperRuns.calls k _ _ l0 _ _ l1 true w (Kd.C_of_reads (d := (0 : Int)) (h1 := fun _ => rfl) hr0) hc0 (Kd.C_of_reads (d := (0 : Int)) (h1 := fun _ => rfl) hr1) hc1 h).mono ?_
  rintro e w' ⟨rfl, hd⟩
  exact ⟨rfl, hd⟩

end Go.Proofs.Ythamjbfdhghbbaa.PFnProperRuns
