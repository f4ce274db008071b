/- Contracts of Go functions that the law FnAddedBackwards reaches: each call does what the Lean function beside it says. Written by a program of this session (wip/gen). -/
import Derived.Test.YthamjbfdhghbbaaPFnAddedBackwardsx0
import Derived.Test.YthamjbfdhghbbaaPFnAddedBackwardsx1
import Derived.Test.YthamjbfdhghbbaaPFnAddedBackwardsx3
import Derived.Test.YthamjbfdhghbbaaPFnAddedBackwardsx4
import Derived.Test.YthamjbfdhghbbaaPFnAddedBackwardsx6
import Derived.Test.YthamjbfdhghbbaaPFnAddedBackwardsx7
import Derived.Test.YthamjbfdhghbbaaPFnAddedBackwardsx8
import Derived.Test.YthamjbfdhghbbaaPFnAddedBackwardsx9
namespace Go.Proofs.Ythamjbfdhghbbaa.PFnAddedBackwards
open Go.RowKit Go.Proofs.YthamjbfdhghbbaaW.PrintWords Go.Proofs.YthamjbfdhghbbaaW.PrintLast Go.Proofs.YthamjbfdhghbbaaW.PrintMore
attribute [local go_sem] max2_int min2_int max_two min_two max_three min_three max_four min_four   -- for this text's walks alone
set_option linter.unusedVariables false
set_option linter.unusedSimpArgs false

/-! ### laws_FnAddedBackwards: function 7 -/
mutual
def laws_FnAddedBackwards.j0 : Nat → List Int → List Int → Int → List Int → Bool → List Int → Bool → Bool → Bool → Option (Bool)
 | 0, _, _, _, _, _, _, _, _, _ => none
 | k + 1, x1, x5, x6, x7, x8, x11, x12, x15, x151 => if x151 = true then (none) else (if x12 = true then (if (x11.length : Int) = (x5.length : Int) then ((laws_qSum.f k x11).bind fun t432 => (if (x15 != (t432 == 0)) = true then (none) else ((laws_qBack.f k x5).bind fun t433 => (if x8 = true then (if 0 ≤ (wrap64 ((x5.length : Int) - 1)) then (if (wrap64 ((x5.length : Int) - 1)) < (x11.length : Int) then (if (x7.length : Int) = (wrap64 ((x5.length : Int) + (rd x11 (wrap64 ((x5.length : Int) - 1))))) then (laws_FnAddedBackwards.l0 k x1 x5 x6 x7 x11 x15 (x5.length : Int) t433 (rd x11 (wrap64 ((x5.length : Int) - 1))) 0 (wrap64 ((x5.length : Int) - 1))) else (none)) else (none)) else (none)) else (laws_FnAddedBackwards.j3 k x1))))) else (none)) else (laws_FnAddedBackwards.j3 k x1))
def laws_FnAddedBackwards.j3 : Nat → List Int → Option (Bool)
 | 0, _ => none
 | k + 1, x1 => (spec_DrawIsSymmetric.f k x1).bind fun bt450 => ((impl_IsSymmetric.f k bt450.1 bt450.2).bind fun bt454 => ((spec_IsSymmetric.f k bt450.1 bt450.2).bind fun bt456 => (if (bt454.2 != bt456.2) = true then (none) else (if (bt454.1 != bt456.1) = true then (none) else (if bt454.2 = true then ((laws_qBack.f k bt450.1).bind fun t458 => ((laws_qSame.f k bt450.1 t458).bind fun t461 => (some (bt454.1 == t461)))) else (some true))))))
def laws_FnAddedBackwards.l0 : Nat → List Int → List Int → Int → List Int → List Int → Bool → Int → List Int → Int → Int → Int → Option (Bool)
 | 0, _, _, _, _, _, _, _, _, _, _, _ => none
 | k + 1, x1, x5, x6, x7, x11, x15, x23, x24, x25, x26, x27 => if x27 ≥ 0 then (if 0 ≤ x27 then (if x27 < (x5.length : Int) then (if x27 < (x24.length : Int) then (if 0 ≤ (wrap64 (x25 + x27)) then (if (wrap64 (x25 + x27)) < (x7.length : Int) then (if 0 ≤ (wrap64 ((wrap64 (x23 - 1)) - x27)) then (if (wrap64 ((wrap64 (x23 - 1)) - x27)) < (x11.length : Int) then (if (wrap64 ((wrap64 ((rd x5 x27) + (rd x24 x27))) + x26)) = (wrap64 ((rd x7 (wrap64 (x25 + x27))) + (wrap64 (x6 * (rd x11 (wrap64 ((wrap64 (x23 - 1)) - x27))))))) then (laws_FnAddedBackwards.l0 k x1 x5 x6 x7 x11 x15 x23 x24 x25 (rd x11 (wrap64 ((wrap64 (x23 - 1)) - x27))) (wrap64 (x27 - 1))) else (none)) else (none)) else (none)) else (none)) else (none)) else (none)) else (none)) else (none)) else ((impl_IsSymmetric.f k x7 x6).bind fun bt442 => (if bt442.2 = true then (if x15 = true then (laws_FnAddedBackwards.j2 k x1 x5 x6 x7 x23 x24 (!bt442.1)) else (laws_FnAddedBackwards.j2 k x1 x5 x6 x7 x23 x24 false)) else (none)))
def laws_FnAddedBackwards.j2 : Nat → List Int → List Int → Int → List Int → Int → List Int → Bool → Option (Bool)
 | 0, _, _, _, _, _, _, _ => none
 | k + 1, x1, x5, x6, x7, x23, x24, x235 => if x235 = true then (none) else (if 0 ≤ (wrap64 (x23 - 1)) then (if (wrap64 (x23 - 1)) < (x5.length : Int) then (if (rd x5 (wrap64 (x23 - 1))) > 0 then ((impl_AddReversed.f k x24 x6).bind fun bt445 => (if bt445.2 = true then ((laws_qSame.f k bt445.1 x7).bind fun t449 => (if t449 = true then (laws_FnAddedBackwards.j3 k x1) else (none))) else (none))) else (laws_FnAddedBackwards.j3 k x1)) else (none)) else (none))
end
def laws_FnAddedBackwards.f (k : Nat) (l0 : List Int) (l1 : List Int) : Option (Bool) := (laws_big.f l0 l1).bind fun t396 => (if t396 = true then (some true) else ((spec_DrawAddReversed.f k l0).bind fun bt397 => ((impl_AddReversed.f k bt397.1 bt397.2).bind fun bt401 => ((spec_AddReversed.f k bt397.1 bt397.2).bind fun bt405 => ((impl_CarriesOf.f k bt397.1 bt397.2).bind fun bt409 => ((spec_CarriesOf.f k bt397.1 bt397.2).bind fun bt413 => ((impl_HasNoCarry.f k bt397.1 bt397.2).bind fun bt417 => ((spec_HasNoCarry.f k bt397.1 bt397.2).bind fun bt419 => ((impl_SubtractReversed.f k bt397.1 bt397.2).bind fun bt421 => ((spec_SubtractReversed.f k bt397.1 bt397.2).bind fun bt425 => (if (bt401.2 != bt405.2) = true then (none) else ((laws_qSame.f k bt401.1 bt405.1).bind fun t429 => (if t429 = true then (if (bt409.2 != bt413.2) = true then (none) else ((laws_qSame.f k bt409.1 bt413.1).bind fun t430 => (if t430 = true then (if (bt417.2 != bt419.2) = true then (none) else (if (bt417.1 != bt419.1) = true then (none) else (if (bt421.2 != bt425.2) = true then (none) else ((laws_qSame.f k bt421.1 bt425.1).bind fun t431 => (if t431 = true then (if (bt417.2 != bt409.2) = true then (none) else (if (bt421.2 != bt409.2) = true then (none) else (if bt401.2 = true then (laws_FnAddedBackwards.j0 k l1 bt397.1 bt397.2 bt401.1 bt401.2 bt409.1 bt409.2 bt417.1 (!bt409.2)) else (laws_FnAddedBackwards.j0 k l1 bt397.1 bt397.2 bt401.1 bt401.2 bt409.1 bt409.2 bt417.1 false)))) else (none)))))) else (none)))) else (none))))))))))))))
theorem laws_FnAddedBackwards.mono_l : ∀ k, (∀ y0 y1 y2 y3 y4 y5 y6 y7 y8, LeO (laws_FnAddedBackwards.j0 k y0 y1 y2 y3 y4 y5 y6 y7 y8) (laws_FnAddedBackwards.j0 (k + 1) y0 y1 y2 y3 y4 y5 y6 y7 y8)) ∧ (∀ y0, LeO (laws_FnAddedBackwards.j3 k y0) (laws_FnAddedBackwards.j3 (k + 1) y0)) ∧ (∀ y0 y1 y2 y3 y4 y5 y6 y7 y8 y9 y10, LeO (laws_FnAddedBackwards.l0 k y0 y1 y2 y3 y4 y5 y6 y7 y8 y9 y10) (laws_FnAddedBackwards.l0 (k + 1) y0 y1 y2 y3 y4 y5 y6 y7 y8 y9 y10)) ∧ (∀ y0 y1 y2 y3 y4 y5 y6, LeO (laws_FnAddedBackwards.j2 k y0 y1 y2 y3 y4 y5 y6) (laws_FnAddedBackwards.j2 (k + 1) y0 y1 y2 y3 y4 y5 y6))
 | 0 => ⟨fun _ _ _ _ _ _ _ _ _ r h => by simp [laws_FnAddedBackwards.j0] at h, fun _ r h => by simp [laws_FnAddedBackwards.j3] at h, fun _ _ _ _ _ _ _ _ _ _ _ r h => by simp [laws_FnAddedBackwards.l0] at h, fun _ _ _ _ _ _ _ r h => by simp [laws_FnAddedBackwards.j2] at h⟩
 | k + 1 => by
  obtain ⟨ih0, ih1, ih2, ih3⟩ := laws_FnAddedBackwards.mono_l k
  refine ⟨?_, ?_, ?_, ?_⟩
  ·intro y0 y1 y2 y3 y4 y5 y6 y7 y8
   unfold laws_FnAddedBackwards.j0
   repeat' first
   | (with_reducible exact ih0 _ _ _ _ _ _ _ _ _)
   | (with_reducible exact ih1 _)
   | (with_reducible exact ih2 _ _ _ _ _ _ _ _ _ _ _)
   | (with_reducible exact ih3 _ _ _ _ _ _ _)
   | (with_reducible exact impl_AddReversed.mono _ _ _)
   | (with_reducible exact impl_CarriesOf.mono _ _ _)
   | (with_reducible exact impl_HasNoCarry.mono _ _ _)
   | (with_reducible exact impl_IsSymmetric.mono _ _ _)
   | (with_reducible exact impl_SubtractReversed.mono _ _ _)
   | (with_reducible exact laws_qBack.mono _ _)
   | (with_reducible exact laws_qSame.mono _ _ _)
   | (with_reducible exact laws_qSum.mono _ _)
   | (with_reducible exact spec_AddReversed.mono _ _ _)
   | (with_reducible exact spec_CarriesOf.mono _ _ _)
   | (with_reducible exact spec_DrawAddReversed.mono _ _)
   | (with_reducible exact spec_DrawIsSymmetric.mono _ _)
   | (with_reducible exact spec_HasNoCarry.mono _ _ _)
   | (with_reducible exact spec_IsSymmetric.mono _ _ _)
   | (with_reducible exact spec_SubtractReversed.mono _ _ _)
   | (with_reducible exact LeO.refl _)
   | (with_reducible exact LeO.none _)
   | (with_reducible refine LeO.ite ?_ ?_)
   | (with_reducible refine LeO.bind ?_ (fun _ => ?_))
   | exact ih0 _ _ _ _ _ _ _ _ _
   | exact ih1 _
   | exact ih2 _ _ _ _ _ _ _ _ _ _ _
   | exact ih3 _ _ _ _ _ _ _
   | exact impl_AddReversed.mono _ _ _
   | exact impl_CarriesOf.mono _ _ _
   | exact impl_HasNoCarry.mono _ _ _
   | exact impl_IsSymmetric.mono _ _ _
   | exact impl_SubtractReversed.mono _ _ _
   | exact laws_qBack.mono _ _
   | exact laws_qSame.mono _ _ _
   | exact laws_qSum.mono _ _
   | exact spec_AddReversed.mono _ _ _
   | exact spec_CarriesOf.mono _ _ _
   | exact spec_DrawAddReversed.mono _ _
   | exact spec_DrawIsSymmetric.mono _ _
   | exact spec_HasNoCarry.mono _ _ _
   | exact spec_IsSymmetric.mono _ _ _
   | exact spec_SubtractReversed.mono _ _ _
   | exact LeO.none _
   | refine LeO.ite ?_ ?_
   | refine LeO.bind ?_ (fun _ => ?_)
  ·intro y0
   unfold laws_FnAddedBackwards.j3
   repeat' first
   | (with_reducible exact ih0 _ _ _ _ _ _ _ _ _)
   | (with_reducible exact ih1 _)
   | (with_reducible exact ih2 _ _ _ _ _ _ _ _ _ _ _)
   | (with_reducible exact ih3 _ _ _ _ _ _ _)
   | (with_reducible exact impl_AddReversed.mono _ _ _)
   | (with_reducible exact impl_CarriesOf.mono _ _ _)
   | (with_reducible exact impl_HasNoCarry.mono _ _ _)
   | (with_reducible exact impl_IsSymmetric.mono _ _ _)
   | (with_reducible exact impl_SubtractReversed.mono _ _ _)
   | (with_reducible exact laws_qBack.mono _ _)
   | (with_reducible exact laws_qSame.mono _ _ _)
   | (with_reducible exact laws_qSum.mono _ _)
   | (with_reducible exact spec_AddReversed.mono _ _ _)
   | (with_reducible exact spec_CarriesOf.mono _ _ _)
   | (with_reducible exact spec_DrawAddReversed.mono _ _)
   | (with_reducible exact spec_DrawIsSymmetric.mono _ _)
   | (with_reducible exact spec_HasNoCarry.mono _ _ _)
   | (with_reducible exact spec_IsSymmetric.mono _ _ _)
   | (with_reducible exact spec_SubtractReversed.mono _ _ _)
   | (with_reducible exact LeO.refl _)
   | (with_reducible exact LeO.none _)
   | (with_reducible refine LeO.ite ?_ ?_)
   | (with_reducible refine LeO.bind ?_ (fun _ => ?_))
   | exact ih0 _ _ _ _ _ _ _ _ _
   | exact ih1 _
   | exact ih2 _ _ _ _ _ _ _ _ _ _ _
   | exact ih3 _ _ _ _ _ _ _
   | exact impl_AddReversed.mono _ _ _
   | exact impl_CarriesOf.mono _ _ _
   | exact impl_HasNoCarry.mono _ _ _
   | exact impl_IsSymmetric.mono _ _ _
   | exact impl_SubtractReversed.mono _ _ _
   | exact laws_qBack.mono _ _
   | exact laws_qSame.mono _ _ _
   | exact laws_qSum.mono _ _
   | exact spec_AddReversed.mono _ _ _
   | exact spec_CarriesOf.mono _ _ _
   | exact spec_DrawAddReversed.mono _ _
   | exact spec_DrawIsSymmetric.mono _ _
   | exact spec_HasNoCarry.mono _ _ _
   | exact spec_IsSymmetric.mono _ _ _
   | exact spec_SubtractReversed.mono _ _ _
   | exact LeO.none _
   | refine LeO.ite ?_ ?_
   | refine LeO.bind ?_ (fun _ => ?_)
  ·intro y0 y1 y2 y3 y4 y5 y6 y7 y8 y9 y10
   unfold laws_FnAddedBackwards.l0
   repeat' first
   | (with_reducible exact ih0 _ _ _ _ _ _ _ _ _)
   | (with_reducible exact ih1 _)
   | (with_reducible exact ih2 _ _ _ _ _ _ _ _ _ _ _)
   | (with_reducible exact ih3 _ _ _ _ _ _ _)
   | (with_reducible exact impl_AddReversed.mono _ _ _)
   | (with_reducible exact impl_CarriesOf.mono _ _ _)
   | (with_reducible exact impl_HasNoCarry.mono _ _ _)
   | (with_reducible exact impl_IsSymmetric.mono _ _ _)
   | (with_reducible exact impl_SubtractReversed.mono _ _ _)
   | (with_reducible exact laws_qBack.mono _ _)
   | (with_reducible exact laws_qSame.mono _ _ _)
   | (with_reducible exact laws_qSum.mono _ _)
   | (with_reducible exact spec_AddReversed.mono _ _ _)
   | (with_reducible exact spec_CarriesOf.mono _ _ _)
   | (with_reducible exact spec_DrawAddReversed.mono _ _)
   | (with_reducible exact spec_DrawIsSymmetric.mono _ _)
   | (with_reducible exact spec_HasNoCarry.mono _ _ _)
   | (with_reducible exact spec_IsSymmetric.mono _ _ _)
   | (with_reducible exact spec_SubtractReversed.mono _ _ _)
   | (with_reducible exact LeO.refl _)
   | (with_reducible exact LeO.none _)
   | (with_reducible refine LeO.ite ?_ ?_)
   | (with_reducible refine LeO.bind ?_ (fun _ => ?_))
   | exact ih0 _ _ _ _ _ _ _ _ _
   | exact ih1 _
   | exact ih2 _ _ _ _ _ _ _ _ _ _ _
   | exact ih3 _ _ _ _ _ _ _
   | exact impl_AddReversed.mono _ _ _
   | exact impl_CarriesOf.mono _ _ _
   | exact impl_HasNoCarry.mono _ _ _
   | exact impl_IsSymmetric.mono _ _ _
   | exact impl_SubtractReversed.mono _ _ _
   | exact laws_qBack.mono _ _
   | exact laws_qSame.mono _ _ _
   | exact laws_qSum.mono _ _
   | exact spec_AddReversed.mono _ _ _
   | exact spec_CarriesOf.mono _ _ _
   | exact spec_DrawAddReversed.mono _ _
   | exact spec_DrawIsSymmetric.mono _ _
   | exact spec_HasNoCarry.mono _ _ _
   | exact spec_IsSymmetric.mono _ _ _
   | exact spec_SubtractReversed.mono _ _ _
   | exact LeO.none _
   | refine LeO.ite ?_ ?_
   | refine LeO.bind ?_ (fun _ => ?_)
  ·intro y0 y1 y2 y3 y4 y5 y6
   unfold laws_FnAddedBackwards.j2
   repeat' first
   | (with_reducible exact ih0 _ _ _ _ _ _ _ _ _)
   | (with_reducible exact ih1 _)
   | (with_reducible exact ih2 _ _ _ _ _ _ _ _ _ _ _)
   | (with_reducible exact ih3 _ _ _ _ _ _ _)
   | (with_reducible exact impl_AddReversed.mono _ _ _)
   | (with_reducible exact impl_CarriesOf.mono _ _ _)
   | (with_reducible exact impl_HasNoCarry.mono _ _ _)
   | (with_reducible exact impl_IsSymmetric.mono _ _ _)
   | (with_reducible exact impl_SubtractReversed.mono _ _ _)
   | (with_reducible exact laws_qBack.mono _ _)
   | (with_reducible exact laws_qSame.mono _ _ _)
   | (with_reducible exact laws_qSum.mono _ _)
   | (with_reducible exact spec_AddReversed.mono _ _ _)
   | (with_reducible exact spec_CarriesOf.mono _ _ _)
   | (with_reducible exact spec_DrawAddReversed.mono _ _)
   | (with_reducible exact spec_DrawIsSymmetric.mono _ _)
   | (with_reducible exact spec_HasNoCarry.mono _ _ _)
   | (with_reducible exact spec_IsSymmetric.mono _ _ _)
   | (with_reducible exact spec_SubtractReversed.mono _ _ _)
   | (with_reducible exact LeO.refl _)
   | (with_reducible exact LeO.none _)
   | (with_reducible refine LeO.ite ?_ ?_)
   | (with_reducible refine LeO.bind ?_ (fun _ => ?_))
   | exact ih0 _ _ _ _ _ _ _ _ _
   | exact ih1 _
   | exact ih2 _ _ _ _ _ _ _ _ _ _ _
   | exact ih3 _ _ _ _ _ _ _
   | exact impl_AddReversed.mono _ _ _
   | exact impl_CarriesOf.mono _ _ _
   | exact impl_HasNoCarry.mono _ _ _
   | exact impl_IsSymmetric.mono _ _ _
   | exact impl_SubtractReversed.mono _ _ _
   | exact laws_qBack.mono _ _
   | exact laws_qSame.mono _ _ _
   | exact laws_qSum.mono _ _
   | exact spec_AddReversed.mono _ _ _
   | exact spec_CarriesOf.mono _ _ _
   | exact spec_DrawAddReversed.mono _ _
   | exact spec_DrawIsSymmetric.mono _ _
   | exact spec_HasNoCarry.mono _ _ _
   | exact spec_IsSymmetric.mono _ _ _
   | exact spec_SubtractReversed.mono _ _ _
   | exact LeO.none _
   | refine LeO.ite ?_ ?_
   | refine LeO.bind ?_ (fun _ => ?_)
theorem laws_FnAddedBackwards.mono : ∀ a0 a1 k, LeO (laws_FnAddedBackwards.f k a0 a1) (laws_FnAddedBackwards.f (k + 1) a0 a1) := by
 intro a0 a1 k
 obtain ⟨ih0, ih1, ih2, ih3⟩ := laws_FnAddedBackwards.mono_l k
 unfold laws_FnAddedBackwards.f
 repeat' first
   | (with_reducible exact ih0 _ _ _ _ _ _ _ _ _)
   | (with_reducible exact ih1 _)
   | (with_reducible exact ih2 _ _ _ _ _ _ _ _ _ _ _)
   | (with_reducible exact ih3 _ _ _ _ _ _ _)
   | (with_reducible exact impl_AddReversed.mono _ _ _)
   | (with_reducible exact impl_CarriesOf.mono _ _ _)
   | (with_reducible exact impl_HasNoCarry.mono _ _ _)
   | (with_reducible exact impl_IsSymmetric.mono _ _ _)
   | (with_reducible exact impl_SubtractReversed.mono _ _ _)
   | (with_reducible exact laws_qBack.mono _ _)
   | (with_reducible exact laws_qSame.mono _ _ _)
   | (with_reducible exact laws_qSum.mono _ _)
   | (with_reducible exact spec_AddReversed.mono _ _ _)
   | (with_reducible exact spec_CarriesOf.mono _ _ _)
   | (with_reducible exact spec_DrawAddReversed.mono _ _)
   | (with_reducible exact spec_DrawIsSymmetric.mono _ _)
   | (with_reducible exact spec_HasNoCarry.mono _ _ _)
   | (with_reducible exact spec_IsSymmetric.mono _ _ _)
   | (with_reducible exact spec_SubtractReversed.mono _ _ _)
   | (with_reducible exact LeO.refl _)
   | (with_reducible exact LeO.none _)
   | (with_reducible refine LeO.ite ?_ ?_)
   | (with_reducible refine LeO.bind ?_ (fun _ => ?_))
   | exact ih0 _ _ _ _ _ _ _ _ _
   | exact ih1 _
   | exact ih2 _ _ _ _ _ _ _ _ _ _ _
   | exact ih3 _ _ _ _ _ _ _
   | exact impl_AddReversed.mono _ _ _
   | exact impl_CarriesOf.mono _ _ _
   | exact impl_HasNoCarry.mono _ _ _
   | exact impl_IsSymmetric.mono _ _ _
   | exact impl_SubtractReversed.mono _ _ _
   | exact laws_qBack.mono _ _
   | exact laws_qSame.mono _ _ _
   | exact laws_qSum.mono _ _
   | exact spec_AddReversed.mono _ _ _
   | exact spec_CarriesOf.mono _ _ _
   | exact spec_DrawAddReversed.mono _ _
   | exact spec_DrawIsSymmetric.mono _ _
   | exact spec_HasNoCarry.mono _ _ _
   | exact spec_IsSymmetric.mono _ _ _
   | exact spec_SubtractReversed.mono _ _ _
   | exact LeO.none _
   | refine LeO.ite ?_ ?_
   | refine LeO.bind ?_ (fun _ => ?_)
set_option maxHeartbeats 8000000 in
set_option maxRecDepth 100000 in
theorem laws_FnAddedBackwards.calls (k : Nat) (A0 : Option Addr) (c0 : Nat) (l0 : List Int) (A1 : Option Addr) (c1 : Nat) (l1 : List Int) (r : Bool) (w : World) (hr0 : Kd.C (Kd.int .u8) w A0 l0.length l0) (hc0 : l0.length ≤ c0) (hr1 : Kd.C (Kd.int .u8) w A1 l1.length l1) (hc1 : l1.length ≤ c1) (h : laws_FnAddedBackwards.f k l0 l1 = some r) :
  Calls Try.prog 7 #[.slice A0 l0.length c0, .slice A1 l1.length c1] w fun e w' => e = .returned (.bool r) ∧ Below w.heap.size w w' := by
 have HR0 := Aside0.mk hr0
 have HC0 := Aside0.mk hc0
 clear hr0 hc0
 have HR1 := Aside0.mk hr1
 have HC1 := Aside0.mk hc1
 clear hr1 hc1
 have HB := Aside0.mk (Below.refl w.heap.size w)
 have H : ((laws_big.f l0 l1).bind fun t396 => (if t396 = true then (some true) else ((spec_DrawAddReversed.f k l0).bind fun bt397 => ((impl_AddReversed.f k bt397.1 bt397.2).bind fun bt401 => ((spec_AddReversed.f k bt397.1 bt397.2).bind fun bt405 => ((impl_CarriesOf.f k bt397.1 bt397.2).bind fun bt409 => ((spec_CarriesOf.f k bt397.1 bt397.2).bind fun bt413 => ((impl_HasNoCarry.f k bt397.1 bt397.2).bind fun bt417 => ((spec_HasNoCarry.f k bt397.1 bt397.2).bind fun bt419 => ((impl_SubtractReversed.f k bt397.1 bt397.2).bind fun bt421 => ((spec_SubtractReversed.f k bt397.1 bt397.2).bind fun bt425 => (if (bt401.2 != bt405.2) = true then (none) else ((laws_qSame.f k bt401.1 bt405.1).bind fun t429 => (if t429 = true then (if (bt409.2 != bt413.2) = true then (none) else ((laws_qSame.f k bt409.1 bt413.1).bind fun t430 => (if t430 = true then (if (bt417.2 != bt419.2) = true then (none) else (if (bt417.1 != bt419.1) = true then (none) else (if (bt421.2 != bt425.2) = true then (none) else ((laws_qSame.f k bt421.1 bt425.1).bind fun t431 => (if t431 = true then (if (bt417.2 != bt409.2) = true then (none) else (if (bt421.2 != bt409.2) = true then (none) else (if bt401.2 = true then (laws_FnAddedBackwards.j0 k l1 bt397.1 bt397.2 bt401.1 bt401.2 bt409.1 bt409.2 bt417.1 (!bt409.2)) else (laws_FnAddedBackwards.j0 k l1 bt397.1 bt397.2 bt401.1 bt401.2 bt409.1 bt409.2 bt417.1 false)))) else (none)))))) else (none)))) else (none))))))))))))))) = some r := h
 clear h
 replace H := Option.bind_eq_some_iff.mp H
 obtain ⟨t396, A30, H⟩ := H
 replace H : (if t396 = true then (some true) else ((spec_DrawAddReversed.f k l0).bind fun bt397 => ((impl_AddReversed.f k bt397.1 bt397.2).bind fun bt401 => ((spec_AddReversed.f k bt397.1 bt397.2).bind fun bt405 => ((impl_CarriesOf.f k bt397.1 bt397.2).bind fun bt409 => ((spec_CarriesOf.f k bt397.1 bt397.2).bind fun bt413 => ((impl_HasNoCarry.f k bt397.1 bt397.2).bind fun bt417 => ((spec_HasNoCarry.f k bt397.1 bt397.2).bind fun bt419 => ((impl_SubtractReversed.f k bt397.1 bt397.2).bind fun bt421 => ((spec_SubtractReversed.f k bt397.1 bt397.2).bind fun bt425 => (if (bt401.2 != bt405.2) = true then (none) else ((laws_qSame.f k bt401.1 bt405.1).bind fun t429 => (if t429 = true then (if (bt409.2 != bt413.2) = true then (none) else ((laws_qSame.f k bt409.1 bt413.1).bind fun t430 => (if t430 = true then (if (bt417.2 != bt419.2) = true then (none) else (if (bt417.1 != bt419.1) = true then (none) else (if (bt421.2 != bt425.2) = true then (none) else ((laws_qSame.f k bt421.1 bt425.1).bind fun t431 => (if t431 = true then (if (bt417.2 != bt409.2) = true then (none) else (if (bt421.2 != bt409.2) = true then (none) else (if bt401.2 = true then (laws_FnAddedBackwards.j0 k l1 bt397.1 bt397.2 bt401.1 bt401.2 bt409.1 bt409.2 bt417.1 (!bt409.2)) else (laws_FnAddedBackwards.j0 k l1 bt397.1 bt397.2 bt401.1 bt401.2 bt409.1 bt409.2 bt417.1 false)))) else (none)))))) else (none)))) else (none)))))))))))))) = some r := H
 have A3 := Aside0.mk A30
 clear A30
 by_cases c4 : t396 = true
 ·subst c4
  have H1 : (some true) = some r := by rw [if_pos rfl] at H; exact H
  clear H
  have H := H1
  clear H1
  as_aux_lemma =>
   obtain rfl := Option.some.inj H
   go_enter Try.func7, Try.ntmps7
   go_wp2_with (first | (go_at_call 9; (with_reducible refine (laws_big.calls _ _ l0 _ _ l1 true _ ?side1 ?side2 ?side3 ?side4 A3.out).mono ?_); (case side1 => repeat (first | exact HR0.out | (with_reducible refine Kd.C_alloc ?_ _) | (with_reducible refine Kd.C_drewN ?_ _) | (with_reducible refine Kd.C_drew ?_))); (case side2 => exact HC0.out); (case side3 => repeat (first | exact HR1.out | (with_reducible refine Kd.C_alloc ?_ _) | (with_reducible refine Kd.C_drewN ?_ _) | (with_reducible refine Kd.C_drew ?_))); (case side4 => exact HC1.out); rintro e w' ⟨rfl, ⟨nd, rfl⟩⟩; (try first | exact ⟨rfl, _, World.drewN_drewN _ _ _⟩ | exact ⟨rfl, _, Eq.trans (World.drewN_drewN _ _ _) (congrArg (World.drewN _) (Nat.add_assoc _ _ _))⟩)))
   repeat (go_quiet (first | (go_at_call 9; (with_reducible refine (laws_big.calls _ _ l0 _ _ l1 true _ ?side1 ?side2 ?side3 ?side4 A3.out).mono ?_); (case side1 => repeat (first | exact HR0.out | (with_reducible refine Kd.C_alloc ?_ _) | (with_reducible refine Kd.C_drewN ?_ _) | (with_reducible refine Kd.C_drew ?_))); (case side2 => exact HC0.out); (case side3 => repeat (first | exact HR1.out | (with_reducible refine Kd.C_alloc ?_ _) | (with_reducible refine Kd.C_drewN ?_ _) | (with_reducible refine Kd.C_drew ?_))); (case side4 => exact HC1.out); rintro e w' ⟨rfl, ⟨nd, rfl⟩⟩; (try first | exact ⟨rfl, _, World.drewN_drewN _ _ _⟩ | exact ⟨rfl, _, Eq.trans (World.drewN_drewN _ _ _) (congrArg (World.drewN _) (Nat.add_assoc _ _ _))⟩))); try go_wp2_with (first | (go_at_call 9; (with_reducible refine (laws_big.calls _ _ l0 _ _ l1 true _ ?side1 ?side2 ?side3 ?side4 A3.out).mono ?_); (case side1 => repeat (first | exact HR0.out | (with_reducible refine Kd.C_alloc ?_ _) | (with_reducible refine Kd.C_drewN ?_ _) | (with_reducible refine Kd.C_drew ?_))); (case side2 => exact HC0.out); (case side3 => repeat (first | exact HR1.out | (with_reducible refine Kd.C_alloc ?_ _) | (with_reducible refine Kd.C_drewN ?_ _) | (with_reducible refine Kd.C_drew ?_))); (case side4 => exact HC1.out); rintro e w' ⟨rfl, ⟨nd, rfl⟩⟩; (try first | exact ⟨rfl, _, World.drewN_drewN _ _ _⟩ | exact ⟨rfl, _, Eq.trans (World.drewN_drewN _ _ _) (congrArg (World.drewN _) (Nat.add_assoc _ _ _))⟩))))
   go_ret
   exact ⟨by first | rfl | (simp [errW_none, errW_some] <;> rfl) | (simp [*, errW_none, errW_some] <;> rfl), by repeat (first | (with_reducible first | exact HB.out | apply below_alloc | apply pw_below_drewN | apply below_drew1) | exact HB.out)⟩
 ·replace c4 := Bool.eq_false_iff.mpr c4
  subst c4
  have H1 : ((spec_DrawAddReversed.f k l0).bind fun bt397 => ((impl_AddReversed.f k bt397.1 bt397.2).bind fun bt401 => ((spec_AddReversed.f k bt397.1 bt397.2).bind fun bt405 => ((impl_CarriesOf.f k bt397.1 bt397.2).bind fun bt409 => ((spec_CarriesOf.f k bt397.1 bt397.2).bind fun bt413 => ((impl_HasNoCarry.f k bt397.1 bt397.2).bind fun bt417 => ((spec_HasNoCarry.f k bt397.1 bt397.2).bind fun bt419 => ((impl_SubtractReversed.f k bt397.1 bt397.2).bind fun bt421 => ((spec_SubtractReversed.f k bt397.1 bt397.2).bind fun bt425 => (if (bt401.2 != bt405.2) = true then (none) else ((laws_qSame.f k bt401.1 bt405.1).bind fun t429 => (if t429 = true then (if (bt409.2 != bt413.2) = true then (none) else ((laws_qSame.f k bt409.1 bt413.1).bind fun t430 => (if t430 = true then (if (bt417.2 != bt419.2) = true then (none) else (if (bt417.1 != bt419.1) = true then (none) else (if (bt421.2 != bt425.2) = true then (none) else ((laws_qSame.f k bt421.1 bt425.1).bind fun t431 => (if t431 = true then (if (bt417.2 != bt409.2) = true then (none) else (if (bt421.2 != bt409.2) = true then (none) else (if bt401.2 = true then (laws_FnAddedBackwards.j0 k l1 bt397.1 bt397.2 bt401.1 bt401.2 bt409.1 bt409.2 bt417.1 (!bt409.2)) else (laws_FnAddedBackwards.j0 k l1 bt397.1 bt397.2 bt401.1 bt401.2 bt409.1 bt409.2 bt417.1 false)))) else (none)))))) else (none)))) else (none))))))))))))) = some r := by rw [if_neg (show ¬ (false = true) by decide)] at H; exact H
  clear H
  have H := H1
  clear H1
  replace H := Option.bind_eq_some_iff.mp H
  obtain ⟨⟨t397, t398⟩, A50, H⟩ := H
  replace H : ((impl_AddReversed.f k t397 t398).bind fun bt401 => ((spec_AddReversed.f k t397 t398).bind fun bt405 => ((impl_CarriesOf.f k t397 t398).bind fun bt409 => ((spec_CarriesOf.f k t397 t398).bind fun bt413 => ((impl_HasNoCarry.f k t397 t398).bind fun bt417 => ((spec_HasNoCarry.f k t397 t398).bind fun bt419 => ((impl_SubtractReversed.f k t397 t398).bind fun bt421 => ((spec_SubtractReversed.f k t397 t398).bind fun bt425 => (if (bt401.2 != bt405.2) = true then (none) else ((laws_qSame.f k bt401.1 bt405.1).bind fun t429 => (if t429 = true then (if (bt409.2 != bt413.2) = true then (none) else ((laws_qSame.f k bt409.1 bt413.1).bind fun t430 => (if t430 = true then (if (bt417.2 != bt419.2) = true then (none) else (if (bt417.1 != bt419.1) = true then (none) else (if (bt421.2 != bt425.2) = true then (none) else ((laws_qSame.f k bt421.1 bt425.1).bind fun t431 => (if t431 = true then (if (bt417.2 != bt409.2) = true then (none) else (if (bt421.2 != bt409.2) = true then (none) else (if bt401.2 = true then (laws_FnAddedBackwards.j0 k l1 t397 t398 bt401.1 bt401.2 bt409.1 bt409.2 bt417.1 (!bt409.2)) else (laws_FnAddedBackwards.j0 k l1 t397 t398 bt401.1 bt401.2 bt409.1 bt409.2 bt417.1 false)))) else (none)))))) else (none)))) else (none)))))))))))) = some r := H
  have A5 := Aside0.mk A50
  clear A50
  replace H := Option.bind_eq_some_iff.mp H
  obtain ⟨⟨t401, t402⟩, A60, H⟩ := H
  replace H : ((spec_AddReversed.f k t397 t398).bind fun bt405 => ((impl_CarriesOf.f k t397 t398).bind fun bt409 => ((spec_CarriesOf.f k t397 t398).bind fun bt413 => ((impl_HasNoCarry.f k t397 t398).bind fun bt417 => ((spec_HasNoCarry.f k t397 t398).bind fun bt419 => ((impl_SubtractReversed.f k t397 t398).bind fun bt421 => ((spec_SubtractReversed.f k t397 t398).bind fun bt425 => (if (t402 != bt405.2) = true then (none) else ((laws_qSame.f k t401 bt405.1).bind fun t429 => (if t429 = true then (if (bt409.2 != bt413.2) = true then (none) else ((laws_qSame.f k bt409.1 bt413.1).bind fun t430 => (if t430 = true then (if (bt417.2 != bt419.2) = true then (none) else (if (bt417.1 != bt419.1) = true then (none) else (if (bt421.2 != bt425.2) = true then (none) else ((laws_qSame.f k bt421.1 bt425.1).bind fun t431 => (if t431 = true then (if (bt417.2 != bt409.2) = true then (none) else (if (bt421.2 != bt409.2) = true then (none) else (if t402 = true then (laws_FnAddedBackwards.j0 k l1 t397 t398 t401 t402 bt409.1 bt409.2 bt417.1 (!bt409.2)) else (laws_FnAddedBackwards.j0 k l1 t397 t398 t401 t402 bt409.1 bt409.2 bt417.1 false)))) else (none)))))) else (none)))) else (none))))))))))) = some r := H
  have A6 := Aside0.mk A60
  clear A60
  replace H := Option.bind_eq_some_iff.mp H
  obtain ⟨⟨t405, t406⟩, A70, H⟩ := H
  replace H : ((impl_CarriesOf.f k t397 t398).bind fun bt409 => ((spec_CarriesOf.f k t397 t398).bind fun bt413 => ((impl_HasNoCarry.f k t397 t398).bind fun bt417 => ((spec_HasNoCarry.f k t397 t398).bind fun bt419 => ((impl_SubtractReversed.f k t397 t398).bind fun bt421 => ((spec_SubtractReversed.f k t397 t398).bind fun bt425 => (if (t402 != t406) = true then (none) else ((laws_qSame.f k t401 t405).bind fun t429 => (if t429 = true then (if (bt409.2 != bt413.2) = true then (none) else ((laws_qSame.f k bt409.1 bt413.1).bind fun t430 => (if t430 = true then (if (bt417.2 != bt419.2) = true then (none) else (if (bt417.1 != bt419.1) = true then (none) else (if (bt421.2 != bt425.2) = true then (none) else ((laws_qSame.f k bt421.1 bt425.1).bind fun t431 => (if t431 = true then (if (bt417.2 != bt409.2) = true then (none) else (if (bt421.2 != bt409.2) = true then (none) else (if t402 = true then (laws_FnAddedBackwards.j0 k l1 t397 t398 t401 t402 bt409.1 bt409.2 bt417.1 (!bt409.2)) else (laws_FnAddedBackwards.j0 k l1 t397 t398 t401 t402 bt409.1 bt409.2 bt417.1 false)))) else (none)))))) else (none)))) else (none)))))))))) = some r := H
  have A7 := Aside0.mk A70
  clear A70
  replace H := Option.bind_eq_some_iff.mp H
  obtain ⟨⟨t409, t410⟩, A80, H⟩ := H
  replace H : ((spec_CarriesOf.f k t397 t398).bind fun bt413 => ((impl_HasNoCarry.f k t397 t398).bind fun bt417 => ((spec_HasNoCarry.f k t397 t398).bind fun bt419 => ((impl_SubtractReversed.f k t397 t398).bind fun bt421 => ((spec_SubtractReversed.f k t397 t398).bind fun bt425 => (if (t402 != t406) = true then (none) else ((laws_qSame.f k t401 t405).bind fun t429 => (if t429 = true then (if (t410 != bt413.2) = true then (none) else ((laws_qSame.f k t409 bt413.1).bind fun t430 => (if t430 = true then (if (bt417.2 != bt419.2) = true then (none) else (if (bt417.1 != bt419.1) = true then (none) else (if (bt421.2 != bt425.2) = true then (none) else ((laws_qSame.f k bt421.1 bt425.1).bind fun t431 => (if t431 = true then (if (bt417.2 != t410) = true then (none) else (if (bt421.2 != t410) = true then (none) else (if t402 = true then (laws_FnAddedBackwards.j0 k l1 t397 t398 t401 t402 t409 t410 bt417.1 (!t410)) else (laws_FnAddedBackwards.j0 k l1 t397 t398 t401 t402 t409 t410 bt417.1 false)))) else (none)))))) else (none)))) else (none))))))))) = some r := H
  have A8 := Aside0.mk A80
  clear A80
  replace H := Option.bind_eq_some_iff.mp H
  obtain ⟨⟨t413, t414⟩, A90, H⟩ := H
  replace H : ((impl_HasNoCarry.f k t397 t398).bind fun bt417 => ((spec_HasNoCarry.f k t397 t398).bind fun bt419 => ((impl_SubtractReversed.f k t397 t398).bind fun bt421 => ((spec_SubtractReversed.f k t397 t398).bind fun bt425 => (if (t402 != t406) = true then (none) else ((laws_qSame.f k t401 t405).bind fun t429 => (if t429 = true then (if (t410 != t414) = true then (none) else ((laws_qSame.f k t409 t413).bind fun t430 => (if t430 = true then (if (bt417.2 != bt419.2) = true then (none) else (if (bt417.1 != bt419.1) = true then (none) else (if (bt421.2 != bt425.2) = true then (none) else ((laws_qSame.f k bt421.1 bt425.1).bind fun t431 => (if t431 = true then (if (bt417.2 != t410) = true then (none) else (if (bt421.2 != t410) = true then (none) else (if t402 = true then (laws_FnAddedBackwards.j0 k l1 t397 t398 t401 t402 t409 t410 bt417.1 (!t410)) else (laws_FnAddedBackwards.j0 k l1 t397 t398 t401 t402 t409 t410 bt417.1 false)))) else (none)))))) else (none)))) else (none)))))))) = some r := H
  have A9 := Aside0.mk A90
  clear A90
  replace H := Option.bind_eq_some_iff.mp H
  obtain ⟨⟨t417, t418⟩, A100, H⟩ := H
  replace H : ((spec_HasNoCarry.f k t397 t398).bind fun bt419 => ((impl_SubtractReversed.f k t397 t398).bind fun bt421 => ((spec_SubtractReversed.f k t397 t398).bind fun bt425 => (if (t402 != t406) = true then (none) else ((laws_qSame.f k t401 t405).bind fun t429 => (if t429 = true then (if (t410 != t414) = true then (none) else ((laws_qSame.f k t409 t413).bind fun t430 => (if t430 = true then (if (t418 != bt419.2) = true then (none) else (if (t417 != bt419.1) = true then (none) else (if (bt421.2 != bt425.2) = true then (none) else ((laws_qSame.f k bt421.1 bt425.1).bind fun t431 => (if t431 = true then (if (t418 != t410) = true then (none) else (if (bt421.2 != t410) = true then (none) else (if t402 = true then (laws_FnAddedBackwards.j0 k l1 t397 t398 t401 t402 t409 t410 t417 (!t410)) else (laws_FnAddedBackwards.j0 k l1 t397 t398 t401 t402 t409 t410 t417 false)))) else (none)))))) else (none)))) else (none))))))) = some r := H
  have A10 := Aside0.mk A100
  clear A100
  replace H := Option.bind_eq_some_iff.mp H
  obtain ⟨⟨t419, t420⟩, A110, H⟩ := H
  replace H : ((impl_SubtractReversed.f k t397 t398).bind fun bt421 => ((spec_SubtractReversed.f k t397 t398).bind fun bt425 => (if (t402 != t406) = true then (none) else ((laws_qSame.f k t401 t405).bind fun t429 => (if t429 = true then (if (t410 != t414) = true then (none) else ((laws_qSame.f k t409 t413).bind fun t430 => (if t430 = true then (if (t418 != t420) = true then (none) else (if (t417 != t419) = true then (none) else (if (bt421.2 != bt425.2) = true then (none) else ((laws_qSame.f k bt421.1 bt425.1).bind fun t431 => (if t431 = true then (if (t418 != t410) = true then (none) else (if (bt421.2 != t410) = true then (none) else (if t402 = true then (laws_FnAddedBackwards.j0 k l1 t397 t398 t401 t402 t409 t410 t417 (!t410)) else (laws_FnAddedBackwards.j0 k l1 t397 t398 t401 t402 t409 t410 t417 false)))) else (none)))))) else (none)))) else (none)))))) = some r := H
  have A11 := Aside0.mk A110
  clear A110
  replace H := Option.bind_eq_some_iff.mp H
  obtain ⟨⟨t421, t422⟩, A120, H⟩ := H
  replace H : ((spec_SubtractReversed.f k t397 t398).bind fun bt425 => (if (t402 != t406) = true then (none) else ((laws_qSame.f k t401 t405).bind fun t429 => (if t429 = true then (if (t410 != t414) = true then (none) else ((laws_qSame.f k t409 t413).bind fun t430 => (if t430 = true then (if (t418 != t420) = true then (none) else (if (t417 != t419) = true then (none) else (if (t422 != bt425.2) = true then (none) else ((laws_qSame.f k t421 bt425.1).bind fun t431 => (if t431 = true then (if (t418 != t410) = true then (none) else (if (t422 != t410) = true then (none) else (if t402 = true then (laws_FnAddedBackwards.j0 k l1 t397 t398 t401 t402 t409 t410 t417 (!t410)) else (laws_FnAddedBackwards.j0 k l1 t397 t398 t401 t402 t409 t410 t417 false)))) else (none)))))) else (none)))) else (none))))) = some r := H
  have A12 := Aside0.mk A120
  clear A120
  replace H := Option.bind_eq_some_iff.mp H
  obtain ⟨⟨t425, t426⟩, A130, H⟩ := H
  replace H : (if (t402 != t406) = true then (none) else ((laws_qSame.f k t401 t405).bind fun t429 => (if t429 = true then (if (t410 != t414) = true then (none) else ((laws_qSame.f k t409 t413).bind fun t430 => (if t430 = true then (if (t418 != t420) = true then (none) else (if (t417 != t419) = true then (none) else (if (t422 != t426) = true then (none) else ((laws_qSame.f k t421 t425).bind fun t431 => (if t431 = true then (if (t418 != t410) = true then (none) else (if (t422 != t410) = true then (none) else (if t402 = true then (laws_FnAddedBackwards.j0 k l1 t397 t398 t401 t402 t409 t410 t417 (!t410)) else (laws_FnAddedBackwards.j0 k l1 t397 t398 t401 t402 t409 t410 t417 false)))) else (none)))))) else (none)))) else (none)))) = some r := H
  have A13 := Aside0.mk A130
  clear A130
  have HC14 := Aside0.mk H
  clear H
  go_enter Try.func7, Try.ntmps7
  go_upto_region 12 with (first | (go_at_call 9; (with_reducible refine (laws_big.calls _ _ l0 _ _ l1 false _ ?side1 ?side2 ?side3 ?side4 A3.out).mono ?_); (case side1 => repeat (first | exact HR0.out | (with_reducible refine Kd.C_alloc ?_ _) | (with_reducible refine Kd.C_drewN ?_ _) | (with_reducible refine Kd.C_drew ?_))); (case side2 => exact HC0.out); (case side3 => repeat (first | exact HR1.out | (with_reducible refine Kd.C_alloc ?_ _) | (with_reducible refine Kd.C_drewN ?_ _) | (with_reducible refine Kd.C_drew ?_))); (case side4 => exact HC1.out); rintro e w' ⟨rfl, ⟨nd, rfl⟩⟩; (try first | exact ⟨rfl, _, World.drewN_drewN _ _ _⟩ | exact ⟨rfl, _, Eq.trans (World.drewN_drewN _ _ _) (congrArg (World.drewN _) (Nat.add_assoc _ _ _))⟩)) | (go_at_call 60; (with_reducible refine (spec_DrawAddReversed.calls k _ _ l0 t397 t398 _ ?side1 ?side2 A5.out).mono ?_); (case side1 => repeat (first | exact HR0.out | (with_reducible refine Kd.C_alloc ?_ _) | (with_reducible refine Kd.C_drewN ?_ _) | (with_reducible refine Kd.C_drew ?_))); (case side2 => exact HC0.out); rintro e w15 ⟨v399, rfl, ho0, hb⟩; have n0_ := Aside0.mk (Kd.R_lower ho0 (below_size (by repeat (first | (with_reducible first | exact HB.out | apply below_alloc | apply pw_below_drewN | apply below_drew1) | exact HB.out)))); have n1_ := Aside0.mk (below_step (by repeat (first | (with_reducible first | exact HB.out | apply below_alloc | apply pw_below_drewN | apply below_drew1) | exact HB.out)) hb); clear HB; have HO400 := n0_; have HB := n1_; clear n0_ n1_; (try clear hb); (try clear hb2); (try clear hk); (try clear hi); (try clear ho0); obtain ⟨Ao16, co16, eo16⟩ := Kd.R_slice HO400.out; subst eo16) | (go_at_call 61; (with_reducible refine (impl_AddReversed.calls k _ _ t397 t398 t401 t402 _ ?side1 ?side2 A6.out).mono ?_); (case side1 => repeat (first | exact (Kd.R_reads' HO400.out).2.2 | (with_reducible refine Kd.C_alloc ?_ _) | (with_reducible refine Kd.C_drewN ?_ _) | (with_reducible refine Kd.C_drew ?_))); (case side2 => exact (Kd.R_reads' HO400.out).2.1); rintro e w17 ⟨v403, rfl, ho0, hb⟩; have n0_ := Aside0.mk (Kd.R_elder' (by (with_reducible repeat (first | apply Kd.R_alloc | apply Kd.R_drewN | apply Kd.R_drew)); exact HO400.out) (Kd.R_base ho0) hb); have n1_ := Aside0.mk (Kd.R_lower (Kd.R_new' ho0 (Kd.R_lt (by (with_reducible repeat (first | apply Kd.R_alloc | apply Kd.R_drewN | apply Kd.R_drew)); exact HO400.out))) (below_size (by repeat (first | (with_reducible first | exact HB.out | apply below_alloc | apply pw_below_drewN | apply below_drew1) | exact HB.out)))); have n2_ := Aside0.mk (below_step (by repeat (first | (with_reducible first | exact HB.out | apply below_alloc | apply pw_below_drewN | apply below_drew1) | exact HB.out)) hb); clear HO400; clear HB; have HO400 := n0_; have HO404 := n1_; have HB := n2_; clear n0_ n1_ n2_; (try clear hb); (try clear hb2); (try clear hk); (try clear hi); (try clear ho0)) | (go_at_call 62; (with_reducible refine (spec_AddReversed.calls k _ _ t397 t398 t405 t406 _ ?side1 ?side2 A7.out).mono ?_); (case side1 => repeat (first | exact (Kd.R_reads' HO400.out).2.2 | (with_reducible refine Kd.C_alloc ?_ _) | (with_reducible refine Kd.C_drewN ?_ _) | (with_reducible refine Kd.C_drew ?_))); (case side2 => exact (Kd.R_reads' HO400.out).2.1); rintro e w18 ⟨v407, rfl, ho0, hb⟩; have n0_ := Aside0.mk (Kd.R_elder' (by (with_reducible repeat (first | apply Kd.R_alloc | apply Kd.R_drewN | apply Kd.R_drew)); exact HO400.out) (Kd.R_base ho0) hb); have n1_ := Aside0.mk (Kd.R_elder' (by (with_reducible repeat (first | apply Kd.R_alloc | apply Kd.R_drewN | apply Kd.R_drew)); exact HO404.out) (Kd.R_base ho0) hb); have n2_ := Aside0.mk (Kd.R_lower (Kd.R_new' (Kd.R_new' ho0 (Kd.R_lt (by (with_reducible repeat (first | apply Kd.R_alloc | apply Kd.R_drewN | apply Kd.R_drew)); exact HO400.out))) (Kd.R_lt (by (with_reducible repeat (first | apply Kd.R_alloc | apply Kd.R_drewN | apply Kd.R_drew)); exact HO404.out))) (below_size (by repeat (first | (with_reducible first | exact HB.out | apply below_alloc | apply pw_below_drewN | apply below_drew1) | exact HB.out)))); have n3_ := Aside0.mk (below_step (by repeat (first | (with_reducible first | exact HB.out | apply below_alloc | apply pw_below_drewN | apply below_drew1) | exact HB.out)) hb); clear HO400; clear HO404; clear HB; have HO400 := n0_; have HO404 := n1_; have HO408 := n2_; have HB := n3_; clear n0_ n1_ n2_ n3_; (try clear hb); (try clear hb2); (try clear hk); (try clear hi); (try clear ho0)) | (go_at_call 63; (with_reducible refine (impl_CarriesOf.calls k _ _ t397 t398 t409 t410 _ ?side1 ?side2 A8.out).mono ?_); (case side1 => repeat (first | exact (Kd.R_reads' HO400.out).2.2 | (with_reducible refine Kd.C_alloc ?_ _) | (with_reducible refine Kd.C_drewN ?_ _) | (with_reducible refine Kd.C_drew ?_))); (case side2 => exact (Kd.R_reads' HO400.out).2.1); rintro e w19 ⟨v411, rfl, ho0, hb⟩; have n0_ := Aside0.mk (Kd.R_elder' (by (with_reducible repeat (first | apply Kd.R_alloc | apply Kd.R_drewN | apply Kd.R_drew)); exact HO400.out) (Kd.R_base ho0) hb); have n1_ := Aside0.mk (Kd.R_elder' (by (with_reducible repeat (first | apply Kd.R_alloc | apply Kd.R_drewN | apply Kd.R_drew)); exact HO404.out) (Kd.R_base ho0) hb); have n2_ := Aside0.mk (Kd.R_elder' (by (with_reducible repeat (first | apply Kd.R_alloc | apply Kd.R_drewN | apply Kd.R_drew)); exact HO408.out) (Kd.R_base ho0) hb); have n3_ := Aside0.mk (Kd.R_lower (Kd.R_new' (Kd.R_new' (Kd.R_new' ho0 (Kd.R_lt (by (with_reducible repeat (first | apply Kd.R_alloc | apply Kd.R_drewN | apply Kd.R_drew)); exact HO400.out))) (Kd.R_lt (by (with_reducible repeat (first | apply Kd.R_alloc | apply Kd.R_drewN | apply Kd.R_drew)); exact HO404.out))) (Kd.R_lt (by (with_reducible repeat (first | apply Kd.R_alloc | apply Kd.R_drewN | apply Kd.R_drew)); exact HO408.out))) (below_size (by repeat (first | (with_reducible first | exact HB.out | apply below_alloc | apply pw_below_drewN | apply below_drew1) | exact HB.out)))); have n4_ := Aside0.mk (below_step (by repeat (first | (with_reducible first | exact HB.out | apply below_alloc | apply pw_below_drewN | apply below_drew1) | exact HB.out)) hb); clear HO400; clear HO404; clear HO408; clear HB; have HO400 := n0_; have HO404 := n1_; have HO408 := n2_; have HO412 := n3_; have HB := n4_; clear n0_ n1_ n2_ n3_ n4_; (try clear hb); (try clear hb2); (try clear hk); (try clear hi); (try clear ho0)) | (go_at_call 64; (with_reducible refine (spec_CarriesOf.calls k _ _ t397 t398 t413 t414 _ ?side1 ?side2 A9.out).mono ?_); (case side1 => repeat (first | exact (Kd.R_reads' HO400.out).2.2 | (with_reducible refine Kd.C_alloc ?_ _) | (with_reducible refine Kd.C_drewN ?_ _) | (with_reducible refine Kd.C_drew ?_))); (case side2 => exact (Kd.R_reads' HO400.out).2.1); rintro e w20 ⟨v415, rfl, ho0, hb⟩; have n0_ := Aside0.mk (Kd.R_elder' (by (with_reducible repeat (first | apply Kd.R_alloc | apply Kd.R_drewN | apply Kd.R_drew)); exact HO400.out) (Kd.R_base ho0) hb); have n1_ := Aside0.mk (Kd.R_elder' (by (with_reducible repeat (first | apply Kd.R_alloc | apply Kd.R_drewN | apply Kd.R_drew)); exact HO404.out) (Kd.R_base ho0) hb); have n2_ := Aside0.mk (Kd.R_elder' (by (with_reducible repeat (first | apply Kd.R_alloc | apply Kd.R_drewN | apply Kd.R_drew)); exact HO408.out) (Kd.R_base ho0) hb); have n3_ := Aside0.mk (Kd.R_elder' (by (with_reducible repeat (first | apply Kd.R_alloc | apply Kd.R_drewN | apply Kd.R_drew)); exact HO412.out) (Kd.R_base ho0) hb); have n4_ := Aside0.mk (Kd.R_lower (Kd.R_new' (Kd.R_new' (Kd.R_new' (Kd.R_new' ho0 (Kd.R_lt (by (with_reducible repeat (first | apply Kd.R_alloc | apply Kd.R_drewN | apply Kd.R_drew)); exact HO400.out))) (Kd.R_lt (by (with_reducible repeat (first | apply Kd.R_alloc | apply Kd.R_drewN | apply Kd.R_drew)); exact HO404.out))) (Kd.R_lt (by (with_reducible repeat (first | apply Kd.R_alloc | apply Kd.R_drewN | apply Kd.R_drew)); exact HO408.out))) (Kd.R_lt (by (with_reducible repeat (first | apply Kd.R_alloc | apply Kd.R_drewN | apply Kd.R_drew)); exact HO412.out))) (below_size (by repeat (first | (with_reducible first | exact HB.out | apply below_alloc | apply pw_below_drewN | apply below_drew1) | exact HB.out)))); have n5_ := Aside0.mk (below_step (by repeat (first | (with_reducible first | exact HB.out | apply below_alloc | apply pw_below_drewN | apply below_drew1) | exact HB.out)) hb); clear HO400; clear HO404; clear HO408; clear HO412; clear HB; have HO400 := n0_; have HO404 := n1_; have HO408 := n2_; have HO412 := n3_; have HO416 := n4_; have HB := n5_; clear n0_ n1_ n2_ n3_ n4_ n5_; (try clear hb); (try clear hb2); (try clear hk); (try clear hi); (try clear ho0)) | (go_at_call 65; (with_reducible refine (impl_HasNoCarry.calls k _ _ t397 t398 t417 t418 _ ?side1 ?side2 A10.out).mono ?_); (case side1 => repeat (first | exact (Kd.R_reads' HO400.out).2.2 | (with_reducible refine Kd.C_alloc ?_ _) | (with_reducible refine Kd.C_drewN ?_ _) | (with_reducible refine Kd.C_drew ?_))); (case side2 => exact (Kd.R_reads' HO400.out).2.1); rintro e w21 ⟨rfl, hb⟩; have n0_ := Aside0.mk (Kd.R_below (by (with_reducible repeat (first | apply Kd.R_alloc | apply Kd.R_drewN | apply Kd.R_drew)); exact HO400.out) hb); have n1_ := Aside0.mk (Kd.R_below (by (with_reducible repeat (first | apply Kd.R_alloc | apply Kd.R_drewN | apply Kd.R_drew)); exact HO404.out) hb); have n2_ := Aside0.mk (Kd.R_below (by (with_reducible repeat (first | apply Kd.R_alloc | apply Kd.R_drewN | apply Kd.R_drew)); exact HO408.out) hb); have n3_ := Aside0.mk (Kd.R_below (by (with_reducible repeat (first | apply Kd.R_alloc | apply Kd.R_drewN | apply Kd.R_drew)); exact HO412.out) hb); have n4_ := Aside0.mk (Kd.R_below (by (with_reducible repeat (first | apply Kd.R_alloc | apply Kd.R_drewN | apply Kd.R_drew)); exact HO416.out) hb); have n5_ := Aside0.mk (below_step (by repeat (first | (with_reducible first | exact HB.out | apply below_alloc | apply pw_below_drewN | apply below_drew1) | exact HB.out)) hb); clear HO400; clear HO404; clear HO408; clear HO412; clear HO416; clear HB; have HO400 := n0_; have HO404 := n1_; have HO408 := n2_; have HO412 := n3_; have HO416 := n4_; have HB := n5_; clear n0_ n1_ n2_ n3_ n4_ n5_; (try clear hb); (try clear hb2); (try clear hk); (try clear hi)) | (go_at_call 66; (with_reducible refine (spec_HasNoCarry.calls k _ _ t397 t398 t419 t420 _ ?side1 ?side2 A11.out).mono ?_); (case side1 => repeat (first | exact (Kd.R_reads' HO400.out).2.2 | (with_reducible refine Kd.C_alloc ?_ _) | (with_reducible refine Kd.C_drewN ?_ _) | (with_reducible refine Kd.C_drew ?_))); (case side2 => exact (Kd.R_reads' HO400.out).2.1); rintro e w22 ⟨rfl, hb⟩; have n0_ := Aside0.mk (Kd.R_below (by (with_reducible repeat (first | apply Kd.R_alloc | apply Kd.R_drewN | apply Kd.R_drew)); exact HO400.out) hb); have n1_ := Aside0.mk (Kd.R_below (by (with_reducible repeat (first | apply Kd.R_alloc | apply Kd.R_drewN | apply Kd.R_drew)); exact HO404.out) hb); have n2_ := Aside0.mk (Kd.R_below (by (with_reducible repeat (first | apply Kd.R_alloc | apply Kd.R_drewN | apply Kd.R_drew)); exact HO408.out) hb); have n3_ := Aside0.mk (Kd.R_below (by (with_reducible repeat (first | apply Kd.R_alloc | apply Kd.R_drewN | apply Kd.R_drew)); exact HO412.out) hb); have n4_ := Aside0.mk (Kd.R_below (by (with_reducible repeat (first | apply Kd.R_alloc | apply Kd.R_drewN | apply Kd.R_drew)); exact HO416.out) hb); have n5_ := Aside0.mk (below_step (by repeat (first | (with_reducible first | exact HB.out | apply below_alloc | apply pw_below_drewN | apply below_drew1) | exact HB.out)) hb); clear HO400; clear HO404; clear HO408; clear HO412; clear HO416; clear HB; have HO400 := n0_; have HO404 := n1_; have HO408 := n2_; have HO412 := n3_; have HO416 := n4_; have HB := n5_; clear n0_ n1_ n2_ n3_ n4_ n5_; (try clear hb); (try clear hb2); (try clear hk); (try clear hi)) | (go_at_call 67; (with_reducible refine (impl_SubtractReversed.calls k _ _ t397 t398 t421 t422 _ ?side1 ?side2 A12.out).mono ?_); (case side1 => repeat (first | exact (Kd.R_reads' HO400.out).2.2 | (with_reducible refine Kd.C_alloc ?_ _) | (with_reducible refine Kd.C_drewN ?_ _) | (with_reducible refine Kd.C_drew ?_))); (case side2 => exact (Kd.R_reads' HO400.out).2.1); rintro e w23 ⟨v423, rfl, ho0, hb⟩; have n0_ := Aside0.mk (Kd.R_elder' (by (with_reducible repeat (first | apply Kd.R_alloc | apply Kd.R_drewN | apply Kd.R_drew)); exact HO400.out) (Kd.R_base ho0) hb); have n1_ := Aside0.mk (Kd.R_elder' (by (with_reducible repeat (first | apply Kd.R_alloc | apply Kd.R_drewN | apply Kd.R_drew)); exact HO404.out) (Kd.R_base ho0) hb); have n2_ := Aside0.mk (Kd.R_elder' (by (with_reducible repeat (first | apply Kd.R_alloc | apply Kd.R_drewN | apply Kd.R_drew)); exact HO408.out) (Kd.R_base ho0) hb); have n3_ := Aside0.mk (Kd.R_elder' (by (with_reducible repeat (first | apply Kd.R_alloc | apply Kd.R_drewN | apply Kd.R_drew)); exact HO412.out) (Kd.R_base ho0) hb); have n4_ := Aside0.mk (Kd.R_elder' (by (with_reducible repeat (first | apply Kd.R_alloc | apply Kd.R_drewN | apply Kd.R_drew)); exact HO416.out) (Kd.R_base ho0) hb); have n5_ := Aside0.mk (Kd.R_lower (Kd.R_new' (Kd.R_new' (Kd.R_new' (Kd.R_new' (Kd.R_new' ho0 (Kd.R_lt (by (with_reducible repeat (first | apply Kd.R_alloc | apply Kd.R_drewN | apply Kd.R_drew)); exact HO400.out))) (Kd.R_lt (by (with_reducible repeat (first | apply Kd.R_alloc | apply Kd.R_drewN | apply Kd.R_drew)); exact HO404.out))) (Kd.R_lt (by (with_reducible repeat (first | apply Kd.R_alloc | apply Kd.R_drewN | apply Kd.R_drew)); exact HO408.out))) (Kd.R_lt (by (with_reducible repeat (first | apply Kd.R_alloc | apply Kd.R_drewN | apply Kd.R_drew)); exact HO412.out))) (Kd.R_lt (by (with_reducible repeat (first | apply Kd.R_alloc | apply Kd.R_drewN | apply Kd.R_drew)); exact HO416.out))) (below_size (by repeat (first | (with_reducible first | exact HB.out | apply below_alloc | apply pw_below_drewN | apply below_drew1) | exact HB.out)))); have n6_ := Aside0.mk (below_step (by repeat (first | (with_reducible first | exact HB.out | apply below_alloc | apply pw_below_drewN | apply below_drew1) | exact HB.out)) hb); clear HO400; clear HO404; clear HO408; clear HO412; clear HO416; clear HB; have HO400 := n0_; have HO404 := n1_; have HO408 := n2_; have HO412 := n3_; have HO416 := n4_; have HO424 := n5_; have HB := n6_; clear n0_ n1_ n2_ n3_ n4_ n5_ n6_; (try clear hb); (try clear hb2); (try clear hk); (try clear hi); (try clear ho0)) | (go_at_call 68; (with_reducible refine (spec_SubtractReversed.calls k _ _ t397 t398 t425 t426 _ ?side1 ?side2 A13.out).mono ?_); (case side1 => repeat (first | exact (Kd.R_reads' HO400.out).2.2 | (with_reducible refine Kd.C_alloc ?_ _) | (with_reducible refine Kd.C_drewN ?_ _) | (with_reducible refine Kd.C_drew ?_))); (case side2 => exact (Kd.R_reads' HO400.out).2.1); rintro e w24 ⟨v427, rfl, ho0, hb⟩; have n0_ := Aside0.mk (Kd.R_elder' (by (with_reducible repeat (first | apply Kd.R_alloc | apply Kd.R_drewN | apply Kd.R_drew)); exact HO400.out) (Kd.Q_base ho0) hb); have n1_ := Aside0.mk (Kd.R_elder' (by (with_reducible repeat (first | apply Kd.R_alloc | apply Kd.R_drewN | apply Kd.R_drew)); exact HO404.out) (Kd.Q_base ho0) hb); have n2_ := Aside0.mk (Kd.R_elder' (by (with_reducible repeat (first | apply Kd.R_alloc | apply Kd.R_drewN | apply Kd.R_drew)); exact HO408.out) (Kd.Q_base ho0) hb); have n3_ := Aside0.mk (Kd.R_elder' (by (with_reducible repeat (first | apply Kd.R_alloc | apply Kd.R_drewN | apply Kd.R_drew)); exact HO412.out) (Kd.Q_base ho0) hb); have n4_ := Aside0.mk (Kd.R_elder' (by (with_reducible repeat (first | apply Kd.R_alloc | apply Kd.R_drewN | apply Kd.R_drew)); exact HO416.out) (Kd.Q_base ho0) hb); have n5_ := Aside0.mk (Kd.R_elder' (by (with_reducible repeat (first | apply Kd.R_alloc | apply Kd.R_drewN | apply Kd.R_drew)); exact HO424.out) (Kd.Q_base ho0) hb); have n6_ := Aside0.mk (Kd.Q_lower (Kd.Q_new' (Kd.Q_new' (Kd.Q_new' (Kd.Q_new' (Kd.Q_new' (Kd.Q_new' ho0 (Kd.R_lt (by (with_reducible repeat (first | apply Kd.R_alloc | apply Kd.R_drewN | apply Kd.R_drew)); exact HO400.out))) (Kd.R_lt (by (with_reducible repeat (first | apply Kd.R_alloc | apply Kd.R_drewN | apply Kd.R_drew)); exact HO404.out))) (Kd.R_lt (by (with_reducible repeat (first | apply Kd.R_alloc | apply Kd.R_drewN | apply Kd.R_drew)); exact HO408.out))) (Kd.R_lt (by (with_reducible repeat (first | apply Kd.R_alloc | apply Kd.R_drewN | apply Kd.R_drew)); exact HO412.out))) (Kd.R_lt (by (with_reducible repeat (first | apply Kd.R_alloc | apply Kd.R_drewN | apply Kd.R_drew)); exact HO416.out))) (Kd.R_lt (by (with_reducible repeat (first | apply Kd.R_alloc | apply Kd.R_drewN | apply Kd.R_drew)); exact HO424.out))) (below_size (by repeat (first | (with_reducible first | exact HB.out | apply below_alloc | apply pw_below_drewN | apply below_drew1) | exact HB.out)))); have n7_ := Aside0.mk (below_step (by repeat (first | (with_reducible first | exact HB.out | apply below_alloc | apply pw_below_drewN | apply below_drew1) | exact HB.out)) hb); clear HO400; clear HO404; clear HO408; clear HO412; clear HO416; clear HO424; clear HB; have HO400 := n0_; have HO404 := n1_; have HO408 := n2_; have HO412 := n3_; have HO416 := n4_; have HO424 := n5_; have HO428 := n6_; have HB := n7_; clear n0_ n1_ n2_ n3_ n4_ n5_ n6_ n7_; (try clear hb); (try clear hb2); (try clear hk); (try clear hi); (try clear ho0)))
  repeat (go_quiet (first | (go_at_call 9; (with_reducible refine (laws_big.calls _ _ l0 _ _ l1 false _ ?side1 ?side2 ?side3 ?side4 A3.out).mono ?_); (case side1 => repeat (first | exact HR0.out | (with_reducible refine Kd.C_alloc ?_ _) | (with_reducible refine Kd.C_drewN ?_ _) | (with_reducible refine Kd.C_drew ?_))); (case side2 => exact HC0.out); (case side3 => repeat (first | exact HR1.out | (with_reducible refine Kd.C_alloc ?_ _) | (with_reducible refine Kd.C_drewN ?_ _) | (with_reducible refine Kd.C_drew ?_))); (case side4 => exact HC1.out); rintro e w' ⟨rfl, ⟨nd, rfl⟩⟩; (try first | exact ⟨rfl, _, World.drewN_drewN _ _ _⟩ | exact ⟨rfl, _, Eq.trans (World.drewN_drewN _ _ _) (congrArg (World.drewN _) (Nat.add_assoc _ _ _))⟩)) | (go_at_call 60; (with_reducible refine (spec_DrawAddReversed.calls k _ _ l0 t397 t398 _ ?side1 ?side2 A5.out).mono ?_); (case side1 => repeat (first | exact HR0.out | (with_reducible refine Kd.C_alloc ?_ _) | (with_reducible refine Kd.C_drewN ?_ _) | (with_reducible refine Kd.C_drew ?_))); (case side2 => exact HC0.out); rintro e w15 ⟨v399, rfl, ho0, hb⟩; have n0_ := Aside0.mk (Kd.R_lower ho0 (below_size (by repeat (first | (with_reducible first | exact HB.out | apply below_alloc | apply pw_below_drewN | apply below_drew1) | exact HB.out)))); have n1_ := Aside0.mk (below_step (by repeat (first | (with_reducible first | exact HB.out | apply below_alloc | apply pw_below_drewN | apply below_drew1) | exact HB.out)) hb); clear HB; have HO400 := n0_; have HB := n1_; clear n0_ n1_; (try clear hb); (try clear hb2); (try clear hk); (try clear hi); (try clear ho0); obtain ⟨Ao16, co16, eo16⟩ := Kd.R_slice HO400.out; subst eo16) | (go_at_call 61; (with_reducible refine (impl_AddReversed.calls k _ _ t397 t398 t401 t402 _ ?side1 ?side2 A6.out).mono ?_); (case side1 => repeat (first | exact (Kd.R_reads' HO400.out).2.2 | (with_reducible refine Kd.C_alloc ?_ _) | (with_reducible refine Kd.C_drewN ?_ _) | (with_reducible refine Kd.C_drew ?_))); (case side2 => exact (Kd.R_reads' HO400.out).2.1); rintro e w17 ⟨v403, rfl, ho0, hb⟩; have n0_ := Aside0.mk (Kd.R_elder' (by (with_reducible repeat (first | apply Kd.R_alloc | apply Kd.R_drewN | apply Kd.R_drew)); exact HO400.out) (Kd.R_base ho0) hb); have n1_ := Aside0.mk (Kd.R_lower (Kd.R_new' ho0 (Kd.R_lt (by (with_reducible repeat (first | apply Kd.R_alloc | apply Kd.R_drewN | apply Kd.R_drew)); exact HO400.out))) (below_size (by repeat (first | (with_reducible first | exact HB.out | apply below_alloc | apply pw_below_drewN | apply below_drew1) | exact HB.out)))); have n2_ := Aside0.mk (below_step (by repeat (first | (with_reducible first | exact HB.out | apply below_alloc | apply pw_below_drewN | apply below_drew1) | exact HB.out)) hb); clear HO400; clear HB; have HO400 := n0_; have HO404 := n1_; have HB := n2_; clear n0_ n1_ n2_; (try clear hb); (try clear hb2); (try clear hk); (try clear hi); (try clear ho0)) | (go_at_call 62; (with_reducible refine (spec_AddReversed.calls k _ _ t397 t398 t405 t406 _ ?side1 ?side2 A7.out).mono ?_); (case side1 => repeat (first | exact (Kd.R_reads' HO400.out).2.2 | (with_reducible refine Kd.C_alloc ?_ _) | (with_reducible refine Kd.C_drewN ?_ _) | (with_reducible refine Kd.C_drew ?_))); (case side2 => exact (Kd.R_reads' HO400.out).2.1); rintro e w18 ⟨v407, rfl, ho0, hb⟩; have n0_ := Aside0.mk (Kd.R_elder' (by (with_reducible repeat (first | apply Kd.R_alloc | apply Kd.R_drewN | apply Kd.R_drew)); exact HO400.out) (Kd.R_base ho0) hb); have n1_ := Aside0.mk (Kd.R_elder' (by (with_reducible repeat (first | apply Kd.R_alloc | apply Kd.R_drewN | apply Kd.R_drew)); exact HO404.out) (Kd.R_base ho0) hb); have n2_ := Aside0.mk (Kd.R_lower (Kd.R_new' (Kd.R_new' ho0 (Kd.R_lt (by (with_reducible repeat (first | apply Kd.R_alloc | apply Kd.R_drewN | apply Kd.R_drew)); exact HO400.out))) (Kd.R_lt (by (with_reducible repeat (first | apply Kd.R_alloc | apply Kd.R_drewN | apply Kd.R_drew)); exact HO404.out))) (below_size (by repeat (first | (with_reducible first | exact HB.out | apply below_alloc | apply pw_below_drewN | apply below_drew1) | exact HB.out)))); have n3_ := Aside0.mk (below_step (by repeat (first | (with_reducible first | exact HB.out | apply below_alloc | apply pw_below_drewN | apply below_drew1) | exact HB.out)) hb); clear HO400; clear HO404; clear HB; have HO400 := n0_; have HO404 := n1_; have HO408 := n2_; have HB := n3_; clear n0_ n1_ n2_ n3_; (try clear hb); (try clear hb2); (try clear hk); (try clear hi); (try clear ho0)) | (go_at_call 63; (with_reducible refine (impl_CarriesOf.calls k _ _ t397 t398 t409 t410 _ ?side1 ?side2 A8.out).mono ?_); (case side1 => repeat (first | exact (Kd.R_reads' HO400.out).2.2 | (with_reducible refine Kd.C_alloc ?_ _) | (with_reducible refine Kd.C_drewN ?_ _) | (with_reducible refine Kd.C_drew ?_))); (case side2 => exact (Kd.R_reads' HO400.out).2.1); rintro e w19 ⟨v411, rfl, ho0, hb⟩; have n0_ := Aside0.mk (Kd.R_elder' (by (with_reducible repeat (first | apply Kd.R_alloc | apply Kd.R_drewN | apply Kd.R_drew)); exact HO400.out) (Kd.R_base ho0) hb); have n1_ := Aside0.mk (Kd.R_elder' (by (with_reducible repeat (first | apply Kd.R_alloc | apply Kd.R_drewN | apply Kd.R_drew)); exact HO404.out) (Kd.R_base ho0) hb); have n2_ := Aside0.mk (Kd.R_elder' (by (with_reducible repeat (first | apply Kd.R_alloc | apply Kd.R_drewN | apply Kd.R_drew)); exact HO408.out) (Kd.R_base ho0) hb); have n3_ := Aside0.mk (Kd.R_lower (Kd.R_new' (Kd.R_new' (Kd.R_new' ho0 (Kd.R_lt (by (with_reducible repeat (first | apply Kd.R_alloc | apply Kd.R_drewN | apply Kd.R_drew)); exact HO400.out))) (Kd.R_lt (by (with_reducible repeat (first | apply Kd.R_alloc | apply Kd.R_drewN | apply Kd.R_drew)); exact HO404.out))) (Kd.R_lt (by (with_reducible repeat (first | apply Kd.R_alloc | apply Kd.R_drewN | apply Kd.R_drew)); exact HO408.out))) (below_size (by repeat (first | (with_reducible first | exact HB.out | apply below_alloc | apply pw_below_drewN | apply below_drew1) | exact HB.out)))); have n4_ := Aside0.mk (below_step (by repeat (first | (with_reducible first | exact HB.out | apply below_alloc | apply pw_below_drewN | apply below_drew1) | exact HB.out)) hb); clear HO400; clear HO404; clear HO408; clear HB; have HO400 := n0_; have HO404 := n1_; have HO408 := n2_; have HO412 := n3_; have HB := n4_; clear n0_ n1_ n2_ n3_ n4_; (try clear hb); (try clear hb2); (try clear hk); (try clear hi); (try clear ho0)) | (go_at_call 64; (with_reducible refine (spec_CarriesOf.calls k _ _ t397 t398 t413 t414 _ ?side1 ?side2 A9.out).mono ?_); (case side1 => repeat (first | exact (Kd.R_reads' HO400.out).2.2 | (with_reducible refine Kd.C_alloc ?_ _) | (with_reducible refine Kd.C_drewN ?_ _) | (with_reducible refine Kd.C_drew ?_))); (case side2 => exact (Kd.R_reads' HO400.out).2.1); rintro e w20 ⟨v415, rfl, ho0, hb⟩; have n0_ := Aside0.mk (Kd.R_elder' (by (with_reducible repeat (first | apply Kd.R_alloc | apply Kd.R_drewN | apply Kd.R_drew)); exact HO400.out) (Kd.R_base ho0) hb); have n1_ := Aside0.mk (Kd.R_elder' (by (with_reducible repeat (first | apply Kd.R_alloc | apply Kd.R_drewN | apply Kd.R_drew)); exact HO404.out) (Kd.R_base ho0) hb); have n2_ := Aside0.mk (Kd.R_elder' (by (with_reducible repeat (first | apply Kd.R_alloc | apply Kd.R_drewN | apply Kd.R_drew)); exact HO408.out) (Kd.R_base ho0) hb); have n3_ := Aside0.mk (Kd.R_elder' (by (with_reducible repeat (first | apply Kd.R_alloc | apply Kd.R_drewN | apply Kd.R_drew)); exact HO412.out) (Kd.R_base ho0) hb); have n4_ := Aside0.mk (Kd.R_lower (Kd.R_new' (Kd.R_new' (Kd.R_new' (Kd.R_new' ho0 (Kd.R_lt (by (with_reducible repeat (first | apply Kd.R_alloc | apply Kd.R_drewN | apply Kd.R_drew)); exact HO400.out))) (Kd.R_lt (by (with_reducible repeat (first | apply Kd.R_alloc | apply Kd.R_drewN | apply Kd.R_drew)); exact HO404.out))) (Kd.R_lt (by (with_reducible repeat (first | apply Kd.R_alloc | apply Kd.R_drewN | apply Kd.R_drew)); exact HO408.out))) (Kd.R_lt (by (with_reducible repeat (first | apply Kd.R_alloc | apply Kd.R_drewN | apply Kd.R_drew)); exact HO412.out))) (below_size (by repeat (first | (with_reducible first | exact HB.out | apply below_alloc | apply pw_below_drewN | apply below_drew1) | exact HB.out)))); have n5_ := Aside0.mk (below_step (by repeat (first | (with_reducible first | exact HB.out | apply below_alloc | apply pw_below_drewN | apply below_drew1) | exact HB.out)) hb); clear HO400; clear HO404; clear HO408; clear HO412; clear HB; have HO400 := n0_; have HO404 := n1_; have HO408 := n2_; have HO412 := n3_; have HO416 := n4_; have HB := n5_; clear n0_ n1_ n2_ n3_ n4_ n5_; (try clear hb); (try clear hb2); (try clear hk); (try clear hi); (try clear ho0)) | (go_at_call 65; (with_reducible refine (impl_HasNoCarry.calls k _ _ t397 t398 t417 t418 _ ?side1 ?side2 A10.out).mono ?_); (case side1 => repeat (first | exact (Kd.R_reads' HO400.out).2.2 | (with_reducible refine Kd.C_alloc ?_ _) | (with_reducible refine Kd.C_drewN ?_ _) | (with_reducible refine Kd.C_drew ?_))); (case side2 => exact (Kd.R_reads' HO400.out).2.1); rintro e w21 ⟨rfl, hb⟩; have n0_ := Aside0.mk (Kd.R_below (by (with_reducible repeat (first | apply Kd.R_alloc | apply Kd.R_drewN | apply Kd.R_drew)); exact HO400.out) hb); have n1_ := Aside0.mk (Kd.R_below (by (with_reducible repeat (first | apply Kd.R_alloc | apply Kd.R_drewN | apply Kd.R_drew)); exact HO404.out) hb); have n2_ := Aside0.mk (Kd.R_below (by (with_reducible repeat (first | apply Kd.R_alloc | apply Kd.R_drewN | apply Kd.R_drew)); exact HO408.out) hb); have n3_ := Aside0.mk (Kd.R_below (by (with_reducible repeat (first | apply Kd.R_alloc | apply Kd.R_drewN | apply Kd.R_drew)); exact HO412.out) hb); have n4_ := Aside0.mk (Kd.R_below (by (with_reducible repeat (first | apply Kd.R_alloc | apply Kd.R_drewN | apply Kd.R_drew)); exact HO416.out) hb); have n5_ := Aside0.mk (below_step (by repeat (first | (with_reducible first | exact HB.out | apply below_alloc | apply pw_below_drewN | apply below_drew1) | exact HB.out)) hb); clear HO400; clear HO404; clear HO408; clear HO412; clear HO416; clear HB; have HO400 := n0_; have HO404 := n1_; have HO408 := n2_; have HO412 := n3_; have HO416 := n4_; have HB := n5_; clear n0_ n1_ n2_ n3_ n4_ n5_; (try clear hb); (try clear hb2); (try clear hk); (try clear hi)) | (go_at_call 66; (with_reducible refine (spec_HasNoCarry.calls k _ _ t397 t398 t419 t420 _ ?side1 ?side2 A11.out).mono ?_); (case side1 => repeat (first | exact (Kd.R_reads' HO400.out).2.2 | (with_reducible refine Kd.C_alloc ?_ _) | (with_reducible refine Kd.C_drewN ?_ _) | (with_reducible refine Kd.C_drew ?_))); (case side2 => exact (Kd.R_reads' HO400.out).2.1); rintro e w22 ⟨rfl, hb⟩; have n0_ := Aside0.mk (Kd.R_below (by (with_reducible repeat (first | apply Kd.R_alloc | apply Kd.R_drewN | apply Kd.R_drew)); exact HO400.out) hb); have n1_ := Aside0.mk (Kd.R_below (by (with_reducible repeat (first | apply Kd.R_alloc | apply Kd.R_drewN | apply Kd.R_drew)); exact HO404.out) hb); have n2_ := Aside0.mk (Kd.R_below (by (with_reducible repeat (first | apply Kd.R_alloc | apply Kd.R_drewN | apply Kd.R_drew)); exact HO408.out) hb); have n3_ := Aside0.mk (Kd.R_below (by (with_reducible repeat (first | apply Kd.R_alloc | apply Kd.R_drewN | apply Kd.R_drew)); exact HO412.out) hb); have n4_ := Aside0.mk (Kd.R_below (by (with_reducible repeat (first | apply Kd.R_alloc | apply Kd.R_drewN | apply Kd.R_drew)); exact HO416.out) hb); have n5_ := Aside0.mk (below_step (by repeat (first | (with_reducible first | exact HB.out | apply below_alloc | apply pw_below_drewN | apply below_drew1) | exact HB.out)) hb); clear HO400; clear HO404; clear HO408; clear HO412; clear HO416; clear HB; have HO400 := n0_; have HO404 := n1_; have HO408 := n2_; have HO412 := n3_; have HO416 := n4_; have HB := n5_; clear n0_ n1_ n2_ n3_ n4_ n5_; (try clear hb); (try clear hb2); (try clear hk); (try clear hi)) | (go_at_call 67; (with_reducible refine (impl_SubtractReversed.calls k _ _ t397 t398 t421 t422 _ ?side1 ?side2 A12.out).mono ?_); (case side1 => repeat (first | exact (Kd.R_reads' HO400.out).2.2 | (with_reducible refine Kd.C_alloc ?_ _) | (with_reducible refine Kd.C_drewN ?_ _) | (with_reducible refine Kd.C_drew ?_))); (case side2 => exact (Kd.R_reads' HO400.out).2.1); rintro e w23 ⟨v423, rfl, ho0, hb⟩; have n0_ := Aside0.mk (Kd.R_elder' (by (with_reducible repeat (first | apply Kd.R_alloc | apply Kd.R_drewN | apply Kd.R_drew)); exact HO400.out) (Kd.R_base ho0) hb); have n1_ := Aside0.mk (Kd.R_elder' (by (with_reducible repeat (first | apply Kd.R_alloc | apply Kd.R_drewN | apply Kd.R_drew)); exact HO404.out) (Kd.R_base ho0) hb); have n2_ := Aside0.mk (Kd.R_elder' (by (with_reducible repeat (first | apply Kd.R_alloc | apply Kd.R_drewN | apply Kd.R_drew)); exact HO408.out) (Kd.R_base ho0) hb); have n3_ := Aside0.mk (Kd.R_elder' (by (with_reducible repeat (first | apply Kd.R_alloc | apply Kd.R_drewN | apply Kd.R_drew)); exact HO412.out) (Kd.R_base ho0) hb); have n4_ := Aside0.mk (Kd.R_elder' (by (with_reducible repeat (first | apply Kd.R_alloc | apply Kd.R_drewN | apply Kd.R_drew)); exact HO416.out) (Kd.R_base ho0) hb); have n5_ := Aside0.mk (Kd.R_lower (Kd.R_new' (Kd.R_new' (Kd.R_new' (Kd.R_new' (Kd.R_new' ho0 (Kd.R_lt (by (with_reducible repeat (first | apply Kd.R_alloc | apply Kd.R_drewN | apply Kd.R_drew)); exact HO400.out))) (Kd.R_lt (by (with_reducible repeat (first | apply Kd.R_alloc | apply Kd.R_drewN | apply Kd.R_drew)); exact HO404.out))) (Kd.R_lt (by (with_reducible repeat (first | apply Kd.R_alloc | apply Kd.R_drewN | apply Kd.R_drew)); exact HO408.out))) (Kd.R_lt (by (with_reducible repeat (first | apply Kd.R_alloc | apply Kd.R_drewN | apply Kd.R_drew)); exact HO412.out))) (Kd.R_lt (by (with_reducible repeat (first | apply Kd.R_alloc | apply Kd.R_drewN | apply Kd.R_drew)); exact HO416.out))) (below_size (by repeat (first | (with_reducible first | exact HB.out | apply below_alloc | apply pw_below_drewN | apply below_drew1) | exact HB.out)))); have n6_ := Aside0.mk (below_step (by repeat (first | (with_reducible first | exact HB.out | apply below_alloc | apply pw_below_drewN | apply below_drew1) | exact HB.out)) hb); clear HO400; clear HO404; clear HO408; clear HO412; clear HO416; clear HB; have HO400 := n0_; have HO404 := n1_; have HO408 := n2_; have HO412 := n3_; have HO416 := n4_; have HO424 := n5_; have HB := n6_; clear n0_ n1_ n2_ n3_ n4_ n5_ n6_; (try clear hb); (try clear hb2); (try clear hk); (try clear hi); (try clear ho0)) | (go_at_call 68; (with_reducible refine (spec_SubtractReversed.calls k _ _ t397 t398 t425 t426 _ ?side1 ?side2 A13.out).mono ?_); (case side1 => repeat (first | exact (Kd.R_reads' HO400.out).2.2 | (with_reducible refine Kd.C_alloc ?_ _) | (with_reducible refine Kd.C_drewN ?_ _) | (with_reducible refine Kd.C_drew ?_))); (case side2 => exact (Kd.R_reads' HO400.out).2.1); rintro e w24 ⟨v427, rfl, ho0, hb⟩; have n0_ := Aside0.mk (Kd.R_elder' (by (with_reducible repeat (first | apply Kd.R_alloc | apply Kd.R_drewN | apply Kd.R_drew)); exact HO400.out) (Kd.Q_base ho0) hb); have n1_ := Aside0.mk (Kd.R_elder' (by (with_reducible repeat (first | apply Kd.R_alloc | apply Kd.R_drewN | apply Kd.R_drew)); exact HO404.out) (Kd.Q_base ho0) hb); have n2_ := Aside0.mk (Kd.R_elder' (by (with_reducible repeat (first | apply Kd.R_alloc | apply Kd.R_drewN | apply Kd.R_drew)); exact HO408.out) (Kd.Q_base ho0) hb); have n3_ := Aside0.mk (Kd.R_elder' (by (with_reducible repeat (first | apply Kd.R_alloc | apply Kd.R_drewN | apply Kd.R_drew)); exact HO412.out) (Kd.Q_base ho0) hb); have n4_ := Aside0.mk (Kd.R_elder' (by (with_reducible repeat (first | apply Kd.R_alloc | apply Kd.R_drewN | apply Kd.R_drew)); exact HO416.out) (Kd.Q_base ho0) hb); have n5_ := Aside0.mk (Kd.R_elder' (by (with_reducible repeat (first | apply Kd.R_alloc | apply Kd.R_drewN | apply Kd.R_drew)); exact HO424.out) (Kd.Q_base ho0) hb); have n6_ := Aside0.mk (Kd.Q_lower (Kd.Q_new' (Kd.Q_new' (Kd.Q_new' (Kd.Q_new' (Kd.Q_new' (Kd.Q_new' ho0 (Kd.R_lt (by (with_reducible repeat (first | apply Kd.R_alloc | apply Kd.R_drewN | apply Kd.R_drew)); exact HO400.out))) (Kd.R_lt (by (with_reducible repeat (first | apply Kd.R_alloc | apply Kd.R_drewN | apply Kd.R_drew)); exact HO404.out))) (Kd.R_lt (by (with_reducible repeat (first | apply Kd.R_alloc | apply Kd.R_drewN | apply Kd.R_drew)); exact HO408.out))) (Kd.R_lt (by (with_reducible repeat (first | apply Kd.R_alloc | apply Kd.R_drewN | apply Kd.R_drew)); exact HO412.out))) (Kd.R_lt (by (with_reducible repeat (first | apply Kd.R_alloc | apply Kd.R_drewN | apply Kd.R_drew)); exact HO416.out))) (Kd.R_lt (by (with_reducible repeat (first | apply Kd.R_alloc | apply Kd.R_drewN | apply Kd.R_drew)); exact HO424.out))) (below_size (by repeat (first | (with_reducible first | exact HB.out | apply below_alloc | apply pw_below_drewN | apply below_drew1) | exact HB.out)))); have n7_ := Aside0.mk (below_step (by repeat (first | (with_reducible first | exact HB.out | apply below_alloc | apply pw_below_drewN | apply below_drew1) | exact HB.out)) hb); clear HO400; clear HO404; clear HO408; clear HO412; clear HO416; clear HO424; clear HB; have HO400 := n0_; have HO404 := n1_; have HO408 := n2_; have HO412 := n3_; have HO416 := n4_; have HO424 := n5_; have HO428 := n6_; have HB := n7_; clear n0_ n1_ n2_ n3_ n4_ n5_ n6_ n7_; (try clear hb); (try clear hb2); (try clear hk); (try clear hi); (try clear ho0))); go_upto_region 12 with (first | (go_at_call 9; (with_reducible refine (laws_big.calls _ _ l0 _ _ l1 false _ ?side1 ?side2 ?side3 ?side4 A3.out).mono ?_); (case side1 => repeat (first | exact HR0.out | (with_reducible refine Kd.C_alloc ?_ _) | (with_reducible refine Kd.C_drewN ?_ _) | (with_reducible refine Kd.C_drew ?_))); (case side2 => exact HC0.out); (case side3 => repeat (first | exact HR1.out | (with_reducible refine Kd.C_alloc ?_ _) | (with_reducible refine Kd.C_drewN ?_ _) | (with_reducible refine Kd.C_drew ?_))); (case side4 => exact HC1.out); rintro e w' ⟨rfl, ⟨nd, rfl⟩⟩; (try first | exact ⟨rfl, _, World.drewN_drewN _ _ _⟩ | exact ⟨rfl, _, Eq.trans (World.drewN_drewN _ _ _) (congrArg (World.drewN _) (Nat.add_assoc _ _ _))⟩)) | (go_at_call 60; (with_reducible refine (spec_DrawAddReversed.calls k _ _ l0 t397 t398 _ ?side1 ?side2 A5.out).mono ?_); (case side1 => repeat (first | exact HR0.out | (with_reducible refine Kd.C_alloc ?_ _) | (with_reducible refine Kd.C_drewN ?_ _) | (with_reducible refine Kd.C_drew ?_))); (case side2 => exact HC0.out); rintro e w15 ⟨v399, rfl, ho0, hb⟩; have n0_ := Aside0.mk (Kd.R_lower ho0 (below_size (by repeat (first | (with_reducible first | exact HB.out | apply below_alloc | apply pw_below_drewN | apply below_drew1) | exact HB.out)))); have n1_ := Aside0.mk (below_step (by repeat (first | (with_reducible first | exact HB.out | apply below_alloc | apply pw_below_drewN | apply below_drew1) | exact HB.out)) hb); clear HB; have HO400 := n0_; have HB := n1_; clear n0_ n1_; (try clear hb); (try clear hb2); (try clear hk); (try clear hi); (try clear ho0); obtain ⟨Ao16, co16, eo16⟩ := Kd.R_slice HO400.out; subst eo16) | (go_at_call 61; (with_reducible refine (impl_AddReversed.calls k _ _ t397 t398 t401 t402 _ ?side1 ?side2 A6.out).mono ?_); (case side1 => repeat (first | exact (Kd.R_reads' HO400.out).2.2 | (with_reducible refine Kd.C_alloc ?_ _) | (with_reducible refine Kd.C_drewN ?_ _) | (with_reducible refine Kd.C_drew ?_))); (case side2 => exact (Kd.R_reads' HO400.out).2.1); rintro e w17 ⟨v403, rfl, ho0, hb⟩; have n0_ := Aside0.mk (Kd.R_elder' (by (with_reducible repeat (first | apply Kd.R_alloc | apply Kd.R_drewN | apply Kd.R_drew)); exact HO400.out) (Kd.R_base ho0) hb); have n1_ := Aside0.mk (Kd.R_lower (Kd.R_new' ho0 (Kd.R_lt (by (with_reducible repeat (first | apply Kd.R_alloc | apply Kd.R_drewN | apply Kd.R_drew)); exact HO400.out))) (below_size (by repeat (first | (with_reducible first | exact HB.out | apply below_alloc | apply pw_below_drewN | apply below_drew1) | exact HB.out)))); have n2_ := Aside0.mk (below_step (by repeat (first | (with_reducible first | exact HB.out | apply below_alloc | apply pw_below_drewN | apply below_drew1) | exact HB.out)) hb); clear HO400; clear HB; have HO400 := n0_; have HO404 := n1_; have HB := n2_; clear n0_ n1_ n2_; (try clear hb); (try clear hb2); (try clear hk); (try clear hi); (try clear ho0)) | (go_at_call 62; (with_reducible refine (spec_AddReversed.calls k _ _ t397 t398 t405 t406 _ ?side1 ?side2 A7.out).mono ?_); (case side1 => repeat (first | exact (Kd.R_reads' HO400.out).2.2 | (with_reducible refine Kd.C_alloc ?_ _) | (with_reducible refine Kd.C_drewN ?_ _) | (with_reducible refine Kd.C_drew ?_))); (case side2 => exact (Kd.R_reads' HO400.out).2.1); rintro e w18 ⟨v407, rfl, ho0, hb⟩; have n0_ := Aside0.mk (Kd.R_elder' (by (with_reducible repeat (first | apply Kd.R_alloc | apply Kd.R_drewN | apply Kd.R_drew)); exact HO400.out) (Kd.R_base ho0) hb); have n1_ := Aside0.mk (Kd.R_elder' (by (with_reducible repeat (first | apply Kd.R_alloc | apply Kd.R_drewN | apply Kd.R_drew)); exact HO404.out) (Kd.R_base ho0) hb); have n2_ := Aside0.mk (Kd.R_lower (Kd.R_new' (Kd.R_new' ho0 (Kd.R_lt (by (with_reducible repeat (first | apply Kd.R_alloc | apply Kd.R_drewN | apply Kd.R_drew)); exact HO400.out))) (Kd.R_lt (by (with_reducible repeat (first | apply Kd.R_alloc | apply Kd.R_drewN | apply Kd.R_drew)); exact HO404.out))) (below_size (by repeat (first | (with_reducible first | exact HB.out | apply below_alloc | apply pw_below_drewN | apply below_drew1) | exact HB.out)))); have n3_ := Aside0.mk (below_step (by repeat (first | (with_reducible first | exact HB.out | apply below_alloc | apply pw_below_drewN | apply below_drew1) | exact HB.out)) hb); clear HO400; clear HO404; clear HB; have HO400 := n0_; have HO404 := n1_; have HO408 := n2_; have HB := n3_; clear n0_ n1_ n2_ n3_; (try clear hb); (try clear hb2); (try clear hk); (try clear hi); (try clear ho0)) | (go_at_call 63; (with_reducible refine (impl_CarriesOf.calls k _ _ t397 t398 t409 t410 _ ?side1 ?side2 A8.out).mono ?_); (case side1 => repeat (first | exact (Kd.R_reads' HO400.out).2.2 | (with_reducible refine Kd.C_alloc ?_ _) | (with_reducible refine Kd.C_drewN ?_ _) | (with_reducible refine Kd.C_drew ?_))); (case side2 => exact (Kd.R_reads' HO400.out).2.1); rintro e w19 ⟨v411, rfl, ho0, hb⟩; have n0_ := Aside0.mk (Kd.R_elder' (by (with_reducible repeat (first | apply Kd.R_alloc | apply Kd.R_drewN | apply Kd.R_drew)); exact HO400.out) (Kd.R_base ho0) hb); have n1_ := Aside0.mk (Kd.R_elder' (by (with_reducible repeat (first | apply Kd.R_alloc | apply Kd.R_drewN | apply Kd.R_drew)); exact HO404.out) (Kd.R_base ho0) hb); have n2_ := Aside0.mk (Kd.R_elder' (by (with_reducible repeat (first | apply Kd.R_alloc | apply Kd.R_drewN | apply Kd.R_drew)); exact HO408.out) (Kd.R_base ho0) hb); have n3_ := Aside0.mk (Kd.R_lower (Kd.R_new' (Kd.R_new' (Kd.R_new' ho0 (Kd.R_lt (by (with_reducible repeat (first | apply Kd.R_alloc | apply Kd.R_drewN | apply Kd.R_drew)); exact HO400.out))) (Kd.R_lt (by (with_reducible repeat (first | apply Kd.R_alloc | apply Kd.R_drewN | apply Kd.R_drew)); exact HO404.out))) (Kd.R_lt (by (with_reducible repeat (first | apply Kd.R_alloc | apply Kd.R_drewN | apply Kd.R_drew)); exact HO408.out))) (below_size (by repeat (first | (with_reducible first | exact HB.out | apply below_alloc | apply pw_below_drewN | apply below_drew1) | exact HB.out)))); have n4_ := Aside0.mk (below_step (by repeat (first | (with_reducible first | exact HB.out | apply below_alloc | apply pw_below_drewN | apply below_drew1) | exact HB.out)) hb); clear HO400; clear HO404; clear HO408; clear HB; have HO400 := n0_; have HO404 := n1_; have HO408 := n2_; have HO412 := n3_; have HB := n4_; clear n0_ n1_ n2_ n3_ n4_; (try clear hb); (try clear hb2); (try clear hk); (try clear hi); (try clear ho0)) | (go_at_call 64; (with_reducible refine (spec_CarriesOf.calls k _ _ t397 t398 t413 t414 _ ?side1 ?side2 A9.out).mono ?_); (case side1 => repeat (first | exact (Kd.R_reads' HO400.out).2.2 | (with_reducible refine Kd.C_alloc ?_ _) | (with_reducible refine Kd.C_drewN ?_ _) | (with_reducible refine Kd.C_drew ?_))); (case side2 => exact (Kd.R_reads' HO400.out).2.1); rintro e w20 ⟨v415, rfl, ho0, hb⟩; have n0_ := Aside0.mk (Kd.R_elder' (by (with_reducible repeat (first | apply Kd.R_alloc | apply Kd.R_drewN | apply Kd.R_drew)); exact HO400.out) (Kd.R_base ho0) hb); have n1_ := Aside0.mk (Kd.R_elder' (by (with_reducible repeat (first | apply Kd.R_alloc | apply Kd.R_drewN | apply Kd.R_drew)); exact HO404.out) (Kd.R_base ho0) hb); have n2_ := Aside0.mk (Kd.R_elder' (by (with_reducible repeat (first | apply Kd.R_alloc | apply Kd.R_drewN | apply Kd.R_drew)); exact HO408.out) (Kd.R_base ho0) hb); have n3_ := Aside0.mk (Kd.R_elder' (by (with_reducible repeat (first | apply Kd.R_alloc | apply Kd.R_drewN | apply Kd.R_drew)); exact HO412.out) (Kd.R_base ho0) hb); have n4_ := Aside0.mk (Kd.R_lower (Kd.R_new' (Kd.R_new' (Kd.R_new' (Kd.R_new' ho0 (Kd.R_lt (by (with_reducible repeat (first | apply Kd.R_alloc | apply Kd.R_drewN | apply Kd.R_drew)); exact HO400.out))) (Kd.R_lt (by (with_reducible repeat (first | apply Kd.R_alloc | apply Kd.R_drewN | apply Kd.R_drew)); exact HO404.out))) (Kd.R_lt (by (with_reducible repeat (first | apply Kd.R_alloc | apply Kd.R_drewN | apply Kd.R_drew)); exact HO408.out))) (Kd.R_lt (by (with_reducible repeat (first | apply Kd.R_alloc | apply Kd.R_drewN | apply Kd.R_drew)); exact HO412.out))) (below_size (by repeat (first | (with_reducible first | exact HB.out | apply below_alloc | apply pw_below_drewN | apply below_drew1) | exact HB.out)))); have n5_ := Aside0.mk (below_step (by repeat (first | (with_reducible first | exact HB.out | apply below_alloc | apply pw_below_drewN | apply below_drew1) | exact HB.out)) hb); clear HO400; clear HO404; clear HO408; clear HO412; clear HB; have HO400 := n0_; have HO404 := n1_; have HO408 := n2_; have HO412 := n3_; have HO416 := n4_; have HB := n5_; clear n0_ n1_ n2_ n3_ n4_ n5_; (try clear hb); (try clear hb2); (try clear hk); (try clear hi); (try clear ho0)) | (go_at_call 65; (with_reducible refine (impl_HasNoCarry.calls k _ _ t397 t398 t417 t418 _ ?side1 ?side2 A10.out).mono ?_); (case side1 => repeat (first | exact (Kd.R_reads' HO400.out).2.2 | (with_reducible refine Kd.C_alloc ?_ _) | (with_reducible refine Kd.C_drewN ?_ _) | (with_reducible refine Kd.C_drew ?_))); (case side2 => exact (Kd.R_reads' HO400.out).2.1); rintro e w21 ⟨rfl, hb⟩; have n0_ := Aside0.mk (Kd.R_below (by (with_reducible repeat (first | apply Kd.R_alloc | apply Kd.R_drewN | apply Kd.R_drew)); exact HO400.out) hb); have n1_ := Aside0.mk (Kd.R_below (by (with_reducible repeat (first | apply Kd.R_alloc | apply Kd.R_drewN | apply Kd.R_drew)); exact HO404.out) hb); have n2_ := Aside0.mk (Kd.R_below (by (with_reducible repeat (first | apply Kd.R_alloc | apply Kd.R_drewN | apply Kd.R_drew)); exact HO408.out) hb); have n3_ := Aside0.mk (Kd.R_below (by (with_reducible repeat (first | apply Kd.R_alloc | apply Kd.R_drewN | apply Kd.R_drew)); exact HO412.out) hb); have n4_ := Aside0.mk (Kd.R_below (by (with_reducible repeat (first | apply Kd.R_alloc | apply Kd.R_drewN | apply Kd.R_drew)); exact HO416.out) hb); have n5_ := Aside0.mk (below_step (by repeat (first | (with_reducible first | exact HB.out | apply below_alloc | apply pw_below_drewN | apply below_drew1) | exact HB.out)) hb); clear HO400; clear HO404; clear HO408; clear HO412; clear HO416; clear HB; have HO400 := n0_; have HO404 := n1_; have HO408 := n2_; have HO412 := n3_; have HO416 := n4_; have HB := n5_; clear n0_ n1_ n2_ n3_ n4_ n5_; (try clear hb); (try clear hb2); (try clear hk); (try clear hi)) | (go_at_call 66; (with_reducible refine (spec_HasNoCarry.calls k _ _ t397 t398 t419 t420 _ ?side1 ?side2 A11.out).mono ?_); (case side1 => repeat (first | exact (Kd.R_reads' HO400.out).2.2 | (with_reducible refine Kd.C_alloc ?_ _) | (with_reducible refine Kd.C_drewN ?_ _) | (with_reducible refine Kd.C_drew ?_))); (case side2 => exact (Kd.R_reads' HO400.out).2.1); rintro e w22 ⟨rfl, hb⟩; have n0_ := Aside0.mk (Kd.R_below (by (with_reducible repeat (first | apply Kd.R_alloc | apply Kd.R_drewN | apply Kd.R_drew)); exact HO400.out) hb); have n1_ := Aside0.mk (Kd.R_below (by (with_reducible repeat (first | apply Kd.R_alloc | apply Kd.R_drewN | apply Kd.R_drew)); exact HO404.out) hb); have n2_ := Aside0.mk (Kd.R_below (by (with_reducible repeat (first | apply Kd.R_alloc | apply Kd.R_drewN | apply Kd.R_drew)); exact HO408.out) hb); have n3_ := Aside0.mk (Kd.R_below (by (with_reducible repeat (first | apply Kd.R_alloc | apply Kd.R_drewN | apply Kd.R_drew)); exact HO412.out) hb); have n4_ := Aside0.mk (Kd.R_below (by (with_reducible repeat (first | apply Kd.R_alloc | apply Kd.R_drewN | apply Kd.R_drew)); exact HO416.out) hb); have n5_ := Aside0.mk (below_step (by repeat (first | (with_reducible first | exact HB.out | apply below_alloc | apply pw_below_drewN | apply below_drew1) | exact HB.out)) hb); clear HO400; clear HO404; clear HO408; clear HO412; clear HO416; clear HB; have HO400 := n0_; have HO404 := n1_; have HO408 := n2_; have HO412 := n3_; have HO416 := n4_; have HB := n5_; clear n0_ n1_ n2_ n3_ n4_ n5_; (try clear hb); (try clear hb2); (try clear hk); (try clear hi)) | (go_at_call 67; (with_reducible refine (impl_SubtractReversed.calls k _ _ t397 t398 t421 t422 _ ?side1 ?side2 A12.out).mono ?_); (case side1 => repeat (first | exact (Kd.R_reads' HO400.out).2.2 | (with_reducible refine Kd.C_alloc ?_ _) | (with_reducible refine Kd.C_drewN ?_ _) | (with_reducible refine Kd.C_drew ?_))); (case side2 => exact (Kd.R_reads' HO400.out).2.1); rintro e w23 ⟨v423, rfl, ho0, hb⟩; have n0_ := Aside0.mk (Kd.R_elder' (by (with_reducible repeat (first | apply Kd.R_alloc | apply Kd.R_drewN | apply Kd.R_drew)); exact HO400.out) (Kd.R_base ho0) hb); have n1_ := Aside0.mk (Kd.R_elder' (by (with_reducible repeat (first | apply Kd.R_alloc | apply Kd.R_drewN | apply Kd.R_drew)); exact HO404.out) (Kd.R_base ho0) hb); have n2_ := Aside0.mk (Kd.R_elder' (by (with_reducible repeat (first | apply Kd.R_alloc | apply Kd.R_drewN | apply Kd.R_drew)); exact HO408.out) (Kd.R_base ho0) hb); have n3_ := Aside0.mk (Kd.R_elder' (by (with_reducible repeat (first | apply Kd.R_alloc | apply Kd.R_drewN | apply Kd.R_drew)); exact HO412.out) (Kd.R_base ho0) hb); have n4_ := Aside0.mk (Kd.R_elder' (by (with_reducible repeat (first | apply Kd.R_alloc | apply Kd.R_drewN | apply Kd.R_drew)); exact HO416.out) (Kd.R_base ho0) hb); have n5_ := Aside0.mk (Kd.R_lower (Kd.R_new' (Kd.R_new' (Kd.R_new' (Kd.R_new' (Kd.R_new' ho0 (Kd.R_lt (by (with_reducible repeat (first | apply Kd.R_alloc | apply Kd.R_drewN | apply Kd.R_drew)); exact HO400.out))) (Kd.R_lt (by (with_reducible repeat (first | apply Kd.R_alloc | apply Kd.R_drewN | apply Kd.R_drew)); exact HO404.out))) (Kd.R_lt (by (with_reducible repeat (first | apply Kd.R_alloc | apply Kd.R_drewN | apply Kd.R_drew)); exact HO408.out))) (Kd.R_lt (by (with_reducible repeat (first | apply Kd.R_alloc | apply Kd.R_drewN | apply Kd.R_drew)); exact HO412.out))) (Kd.R_lt (by (with_reducible repeat (first | apply Kd.R_alloc | apply Kd.R_drewN | apply Kd.R_drew)); exact HO416.out))) (below_size (by repeat (first | (with_reducible first | exact HB.out | apply below_alloc | apply pw_below_drewN | apply below_drew1) | exact HB.out)))); have n6_ := Aside0.mk (below_step (by repeat (first | (with_reducible first | exact HB.out | apply below_alloc | apply pw_below_drewN | apply below_drew1) | exact HB.out)) hb); clear HO400; clear HO404; clear HO408; clear HO412; clear HO416; clear HB; have HO400 := n0_; have HO404 := n1_; have HO408 := n2_; have HO412 := n3_; have HO416 := n4_; have HO424 := n5_; have HB := n6_; clear n0_ n1_ n2_ n3_ n4_ n5_ n6_; (try clear hb); (try clear hb2); (try clear hk); (try clear hi); (try clear ho0)) | (go_at_call 68; (with_reducible refine (spec_SubtractReversed.calls k _ _ t397 t398 t425 t426 _ ?side1 ?side2 A13.out).mono ?_); (case side1 => repeat (first | exact (Kd.R_reads' HO400.out).2.2 | (with_reducible refine Kd.C_alloc ?_ _) | (with_reducible refine Kd.C_drewN ?_ _) | (with_reducible refine Kd.C_drew ?_))); (case side2 => exact (Kd.R_reads' HO400.out).2.1); rintro e w24 ⟨v427, rfl, ho0, hb⟩; have n0_ := Aside0.mk (Kd.R_elder' (by (with_reducible repeat (first | apply Kd.R_alloc | apply Kd.R_drewN | apply Kd.R_drew)); exact HO400.out) (Kd.Q_base ho0) hb); have n1_ := Aside0.mk (Kd.R_elder' (by (with_reducible repeat (first | apply Kd.R_alloc | apply Kd.R_drewN | apply Kd.R_drew)); exact HO404.out) (Kd.Q_base ho0) hb); have n2_ := Aside0.mk (Kd.R_elder' (by (with_reducible repeat (first | apply Kd.R_alloc | apply Kd.R_drewN | apply Kd.R_drew)); exact HO408.out) (Kd.Q_base ho0) hb); have n3_ := Aside0.mk (Kd.R_elder' (by (with_reducible repeat (first | apply Kd.R_alloc | apply Kd.R_drewN | apply Kd.R_drew)); exact HO412.out) (Kd.Q_base ho0) hb); have n4_ := Aside0.mk (Kd.R_elder' (by (with_reducible repeat (first | apply Kd.R_alloc | apply Kd.R_drewN | apply Kd.R_drew)); exact HO416.out) (Kd.Q_base ho0) hb); have n5_ := Aside0.mk (Kd.R_elder' (by (with_reducible repeat (first | apply Kd.R_alloc | apply Kd.R_drewN | apply Kd.R_drew)); exact HO424.out) (Kd.Q_base ho0) hb); have n6_ := Aside0.mk (Kd.Q_lower (Kd.Q_new' (Kd.Q_new' (Kd.Q_new' (Kd.Q_new' (Kd.Q_new' (Kd.Q_new' ho0 (Kd.R_lt (by (with_reducible repeat (first | apply Kd.R_alloc | apply Kd.R_drewN | apply Kd.R_drew)); exact HO400.out))) (Kd.R_lt (by (with_reducible repeat (first | apply Kd.R_alloc | apply Kd.R_drewN | apply Kd.R_drew)); exact HO404.out))) (Kd.R_lt (by (with_reducible repeat (first | apply Kd.R_alloc | apply Kd.R_drewN | apply Kd.R_drew)); exact HO408.out))) (Kd.R_lt (by (with_reducible repeat (first | apply Kd.R_alloc | apply Kd.R_drewN | apply Kd.R_drew)); exact HO412.out))) (Kd.R_lt (by (with_reducible repeat (first | apply Kd.R_alloc | apply Kd.R_drewN | apply Kd.R_drew)); exact HO416.out))) (Kd.R_lt (by (with_reducible repeat (first | apply Kd.R_alloc | apply Kd.R_drewN | apply Kd.R_drew)); exact HO424.out))) (below_size (by repeat (first | (with_reducible first | exact HB.out | apply below_alloc | apply pw_below_drewN | apply below_drew1) | exact HB.out)))); have n7_ := Aside0.mk (below_step (by repeat (first | (with_reducible first | exact HB.out | apply below_alloc | apply pw_below_drewN | apply below_drew1) | exact HB.out)) hb); clear HO400; clear HO404; clear HO408; clear HO412; clear HO416; clear HO424; clear HB; have HO400 := n0_; have HO404 := n1_; have HO408 := n2_; have HO412 := n3_; have HO416 := n4_; have HO424 := n5_; have HO428 := n6_; have HB := n7_; clear n0_ n1_ n2_ n3_ n4_ n5_ n6_ n7_; (try clear hb); (try clear hb2); (try clear hk); (try clear hi); (try clear ho0))))
  (try simp only [Act.put, List.setIfInBounds_toArray, List.set_cons_zero, List.set_cons_succ])
  go_cut [151] (fun v151 wc => ∃ (kq : Nat) (x151_13 : Bool), v151 = .bool x151_13 ∧ Aside0 (laws_FnAddedBackwards.j0 kq l1 t397 t398 t401 t402 t409 t410 t417 x151_13 = some r) ∧ Aside0 (kq ≤ k) ∧ Aside0 (Kd.R (Kd.int .i64) 3 wc w.heap.size (fun k_ => some k_ ≠ (v403 : Value).ownBlock ∧ some k_ ≠ (v411 : Value).ownBlock) (.slice Ao16 t397.length co16) t397) ∧ Aside0 (Kd.R (Kd.int .i64) 3 wc w.heap.size (fun k_ => some k_ ≠ ((.slice Ao16 t397.length co16) : Value).ownBlock ∧ some k_ ≠ (v411 : Value).ownBlock) v403 t401) ∧ Aside0 (Kd.R (Kd.int .i64) 3 wc w.heap.size (fun k_ => some k_ ≠ ((.slice Ao16 t397.length co16) : Value).ownBlock ∧ some k_ ≠ (v403 : Value).ownBlock) v411 t409) ∧ Aside0 (Below w.heap.size w wc))
  case first =>
   have H := HC14.out
   clear HC14
   by_cases c25 : (t402 != t406) = true
   ·rw [if_pos c25] at H
    exact absurd H (by simp)
   ·rw [if_neg c25] at H
    have c25b0 : (t402 != t406) = false := by simpa using c25
    (try (have c25b1 : decide (t402 = t406) = true := by simpa using c25))
    (try (have c25b2 : (t402 == t406) = true := by simpa using c25))
    clear c25
    (first | rw [c25b0] | (simp only [i64_w, i32_w]; rw [c25b0]) | skip)
    replace H := Option.bind_eq_some_iff.mp H
    obtain ⟨t429, A260, H⟩ := H
    replace H : (if t429 = true then (if (t410 != t414) = true then (none) else ((laws_qSame.f k t409 t413).bind fun t430 => (if t430 = true then (if (t418 != t420) = true then (none) else (if (t417 != t419) = true then (none) else (if (t422 != t426) = true then (none) else ((laws_qSame.f k t421 t425).bind fun t431 => (if t431 = true then (if (t418 != t410) = true then (none) else (if (t422 != t410) = true then (none) else (if t402 = true then (laws_FnAddedBackwards.j0 k l1 t397 t398 t401 t402 t409 t410 t417 (!t410)) else (laws_FnAddedBackwards.j0 k l1 t397 t398 t401 t402 t409 t410 t417 false)))) else (none)))))) else (none)))) else (none)) = some r := H
    have A26 := Aside0.mk A260
    clear A260
    by_cases c27 : t429 = true
    ·subst c27
     have H1 : (if (t410 != t414) = true then (none) else ((laws_qSame.f k t409 t413).bind fun t430 => (if t430 = true then (if (t418 != t420) = true then (none) else (if (t417 != t419) = true then (none) else (if (t422 != t426) = true then (none) else ((laws_qSame.f k t421 t425).bind fun t431 => (if t431 = true then (if (t418 != t410) = true then (none) else (if (t422 != t410) = true then (none) else (if t402 = true then (laws_FnAddedBackwards.j0 k l1 t397 t398 t401 t402 t409 t410 t417 (!t410)) else (laws_FnAddedBackwards.j0 k l1 t397 t398 t401 t402 t409 t410 t417 false)))) else (none)))))) else (none)))) = some r := by rw [if_pos rfl] at H; exact H
     clear H
     have H := H1
     clear H1
     by_cases c28 : (t410 != t414) = true
     ·rw [if_pos c28] at H
      exact absurd H (by simp)
     ·rw [if_neg c28] at H
      have c28b0 : (t410 != t414) = false := by simpa using c28
      (try (have c28b1 : decide (t410 = t414) = true := by simpa using c28))
      (try (have c28b2 : (t410 == t414) = true := by simpa using c28))
      clear c28
      replace H := Option.bind_eq_some_iff.mp H
      obtain ⟨t430, A290, H⟩ := H
      replace H : (if t430 = true then (if (t418 != t420) = true then (none) else (if (t417 != t419) = true then (none) else (if (t422 != t426) = true then (none) else ((laws_qSame.f k t421 t425).bind fun t431 => (if t431 = true then (if (t418 != t410) = true then (none) else (if (t422 != t410) = true then (none) else (if t402 = true then (laws_FnAddedBackwards.j0 k l1 t397 t398 t401 t402 t409 t410 t417 (!t410)) else (laws_FnAddedBackwards.j0 k l1 t397 t398 t401 t402 t409 t410 t417 false)))) else (none)))))) else (none)) = some r := H
      have A29 := Aside0.mk A290
      clear A290
      by_cases c30 : t430 = true
      ·subst c30
       have H1 : (if (t418 != t420) = true then (none) else (if (t417 != t419) = true then (none) else (if (t422 != t426) = true then (none) else ((laws_qSame.f k t421 t425).bind fun t431 => (if t431 = true then (if (t418 != t410) = true then (none) else (if (t422 != t410) = true then (none) else (if t402 = true then (laws_FnAddedBackwards.j0 k l1 t397 t398 t401 t402 t409 t410 t417 (!t410)) else (laws_FnAddedBackwards.j0 k l1 t397 t398 t401 t402 t409 t410 t417 false)))) else (none)))))) = some r := by rw [if_pos rfl] at H; exact H
       clear H
       have H := H1
       clear H1
       by_cases c31 : (t418 != t420) = true
       ·rw [if_pos c31] at H
        exact absurd H (by simp)
       ·rw [if_neg c31] at H
        have c31b0 : (t418 != t420) = false := by simpa using c31
        (try (have c31b1 : decide (t418 = t420) = true := by simpa using c31))
        (try (have c31b2 : (t418 == t420) = true := by simpa using c31))
        clear c31
        by_cases c32 : (t417 != t419) = true
        ·rw [if_pos c32] at H
         exact absurd H (by simp)
        ·rw [if_neg c32] at H
         have c32b0 : (t417 != t419) = false := by simpa using c32
         (try (have c32b1 : decide (t417 = t419) = true := by simpa using c32))
         (try (have c32b2 : (t417 == t419) = true := by simpa using c32))
         clear c32
         by_cases c33 : (t422 != t426) = true
         ·rw [if_pos c33] at H
          exact absurd H (by simp)
         ·rw [if_neg c33] at H
          have c33b0 : (t422 != t426) = false := by simpa using c33
          (try (have c33b1 : decide (t422 = t426) = true := by simpa using c33))
          (try (have c33b2 : (t422 == t426) = true := by simpa using c33))
          clear c33
          replace H := Option.bind_eq_some_iff.mp H
          obtain ⟨t431, A340, H⟩ := H
          replace H : (if t431 = true then (if (t418 != t410) = true then (none) else (if (t422 != t410) = true then (none) else (if t402 = true then (laws_FnAddedBackwards.j0 k l1 t397 t398 t401 t402 t409 t410 t417 (!t410)) else (laws_FnAddedBackwards.j0 k l1 t397 t398 t401 t402 t409 t410 t417 false)))) else (none)) = some r := H
          have A34 := Aside0.mk A340
          clear A340
          by_cases c35 : t431 = true
          ·subst c35
           have H1 : (if (t418 != t410) = true then (none) else (if (t422 != t410) = true then (none) else (if t402 = true then (laws_FnAddedBackwards.j0 k l1 t397 t398 t401 t402 t409 t410 t417 (!t410)) else (laws_FnAddedBackwards.j0 k l1 t397 t398 t401 t402 t409 t410 t417 false)))) = some r := by rw [if_pos rfl] at H; exact H
           clear H
           have H := H1
           clear H1
           by_cases c36 : (t418 != t410) = true
           ·rw [if_pos c36] at H
            exact absurd H (by simp)
           ·rw [if_neg c36] at H
            have c36b0 : (t418 != t410) = false := by simpa using c36
            (try (have c36b1 : decide (t418 = t410) = true := by simpa using c36))
            (try (have c36b2 : (t418 == t410) = true := by simpa using c36))
            clear c36
            by_cases c37 : (t422 != t410) = true
            ·rw [if_pos c37] at H
             exact absurd H (by simp)
            ·rw [if_neg c37] at H
             have c37b0 : (t422 != t410) = false := by simpa using c37
             (try (have c37b1 : decide (t422 = t410) = true := by simpa using c37))
             (try (have c37b2 : (t422 == t410) = true := by simpa using c37))
             clear c37
             by_cases c38 : t402 = true
             ·subst c38
              have H1 : (laws_FnAddedBackwards.j0 k l1 t397 t398 t401 true t409 t410 t417 (!t410)) = some r := by rw [if_pos rfl] at H; exact H
              clear H
              have H := H1
              clear H1
              as_aux_lemma =>
               have H' := Aside0.mk H
               clear H
               obtain ⟨Ao39, co39, eo39⟩ := Kd.R_slice HO404.out
               subst eo39
               obtain ⟨Ao40, co40, eo40⟩ := Kd.R_slice HO408.out
               subst eo40
               go_wp2_with (first | (go_at_call 17; (with_reducible refine (laws_qSame.calls k _ _ t401 _ _ t405 true _ ?side1 ?side2 ?side3 ?side4 A26.out).mono ?_); (case side1 => repeat (first | exact (Kd.R_reads' HO404.out).2.2 | (with_reducible refine Kd.C_alloc ?_ _) | (with_reducible refine Kd.C_drewN ?_ _) | (with_reducible refine Kd.C_drew ?_))); (case side2 => exact (Kd.R_reads' HO404.out).2.1); (case side3 => repeat (first | exact (Kd.R_reads' HO408.out).2.2 | (with_reducible refine Kd.C_alloc ?_ _) | (with_reducible refine Kd.C_drewN ?_ _) | (with_reducible refine Kd.C_drew ?_))); (case side4 => exact (Kd.R_reads' HO408.out).2.1); rintro e w' ⟨rfl, ⟨nd, rfl⟩⟩; (try first | exact ⟨rfl, _, World.drewN_drewN _ _ _⟩ | exact ⟨rfl, _, Eq.trans (World.drewN_drewN _ _ _) (congrArg (World.drewN _) (Nat.add_assoc _ _ _))⟩); obtain ⟨Ao41, co41, eo41⟩ := Kd.R_slice HO412.out; subst eo41; obtain ⟨Ao42, co42, eo42⟩ := Kd.R_slice HO416.out; subst eo42) | (go_at_call 17; (with_reducible refine (laws_qSame.calls k _ _ t409 _ _ t413 true _ ?side1 ?side2 ?side3 ?side4 A29.out).mono ?_); (case side1 => repeat (first | exact (Kd.R_reads' HO412.out).2.2 | (with_reducible refine Kd.C_alloc ?_ _) | (with_reducible refine Kd.C_drewN ?_ _) | (with_reducible refine Kd.C_drew ?_))); (case side2 => exact (Kd.R_reads' HO412.out).2.1); (case side3 => repeat (first | exact (Kd.R_reads' HO416.out).2.2 | (with_reducible refine Kd.C_alloc ?_ _) | (with_reducible refine Kd.C_drewN ?_ _) | (with_reducible refine Kd.C_drew ?_))); (case side4 => exact (Kd.R_reads' HO416.out).2.1); rintro e w' ⟨rfl, ⟨nd, rfl⟩⟩; (try first | exact ⟨rfl, _, World.drewN_drewN _ _ _⟩ | exact ⟨rfl, _, Eq.trans (World.drewN_drewN _ _ _) (congrArg (World.drewN _) (Nat.add_assoc _ _ _))⟩); obtain ⟨Ao43, co43, eo43⟩ := Kd.R_slice HO424.out; subst eo43; obtain ⟨Ao44, co44, eo44, _⟩ := Kd.Q_slice HO428.out; subst eo44) | (go_at_call 17; (with_reducible refine (laws_qSame.calls k _ _ t421 _ _ t425 true _ ?side1 ?side2 ?side3 ?side4 A34.out).mono ?_); (case side1 => repeat (first | exact (Kd.R_reads' HO424.out).2.2 | (with_reducible refine Kd.C_alloc ?_ _) | (with_reducible refine Kd.C_drewN ?_ _) | (with_reducible refine Kd.C_drew ?_))); (case side2 => exact (Kd.R_reads' HO424.out).2.1); (case side3 => repeat (first | exact (Kd.Q_reads' HO428.out).2.2 | (with_reducible refine Kd.C_alloc ?_ _) | (with_reducible refine Kd.C_drewN ?_ _) | (with_reducible refine Kd.C_drew ?_))); (case side4 => exact (Kd.Q_reads' HO428.out).2.1); rintro e w' ⟨rfl, ⟨nd, rfl⟩⟩; (try first | exact ⟨rfl, _, World.drewN_drewN _ _ _⟩ | exact ⟨rfl, _, Eq.trans (World.drewN_drewN _ _ _) (congrArg (World.drewN _) (Nat.add_assoc _ _ _))⟩)))
               repeat (go_quiet (first | (go_at_call 17; (with_reducible refine (laws_qSame.calls k _ _ t401 _ _ t405 true _ ?side1 ?side2 ?side3 ?side4 A26.out).mono ?_); (case side1 => repeat (first | exact (Kd.R_reads' HO404.out).2.2 | (with_reducible refine Kd.C_alloc ?_ _) | (with_reducible refine Kd.C_drewN ?_ _) | (with_reducible refine Kd.C_drew ?_))); (case side2 => exact (Kd.R_reads' HO404.out).2.1); (case side3 => repeat (first | exact (Kd.R_reads' HO408.out).2.2 | (with_reducible refine Kd.C_alloc ?_ _) | (with_reducible refine Kd.C_drewN ?_ _) | (with_reducible refine Kd.C_drew ?_))); (case side4 => exact (Kd.R_reads' HO408.out).2.1); rintro e w' ⟨rfl, ⟨nd, rfl⟩⟩; (try first | exact ⟨rfl, _, World.drewN_drewN _ _ _⟩ | exact ⟨rfl, _, Eq.trans (World.drewN_drewN _ _ _) (congrArg (World.drewN _) (Nat.add_assoc _ _ _))⟩); obtain ⟨Ao41, co41, eo41⟩ := Kd.R_slice HO412.out; subst eo41; obtain ⟨Ao42, co42, eo42⟩ := Kd.R_slice HO416.out; subst eo42) | (go_at_call 17; (with_reducible refine (laws_qSame.calls k _ _ t409 _ _ t413 true _ ?side1 ?side2 ?side3 ?side4 A29.out).mono ?_); (case side1 => repeat (first | exact (Kd.R_reads' HO412.out).2.2 | (with_reducible refine Kd.C_alloc ?_ _) | (with_reducible refine Kd.C_drewN ?_ _) | (with_reducible refine Kd.C_drew ?_))); (case side2 => exact (Kd.R_reads' HO412.out).2.1); (case side3 => repeat (first | exact (Kd.R_reads' HO416.out).2.2 | (with_reducible refine Kd.C_alloc ?_ _) | (with_reducible refine Kd.C_drewN ?_ _) | (with_reducible refine Kd.C_drew ?_))); (case side4 => exact (Kd.R_reads' HO416.out).2.1); rintro e w' ⟨rfl, ⟨nd, rfl⟩⟩; (try first | exact ⟨rfl, _, World.drewN_drewN _ _ _⟩ | exact ⟨rfl, _, Eq.trans (World.drewN_drewN _ _ _) (congrArg (World.drewN _) (Nat.add_assoc _ _ _))⟩); obtain ⟨Ao43, co43, eo43⟩ := Kd.R_slice HO424.out; subst eo43; obtain ⟨Ao44, co44, eo44, _⟩ := Kd.Q_slice HO428.out; subst eo44) | (go_at_call 17; (with_reducible refine (laws_qSame.calls k _ _ t421 _ _ t425 true _ ?side1 ?side2 ?side3 ?side4 A34.out).mono ?_); (case side1 => repeat (first | exact (Kd.R_reads' HO424.out).2.2 | (with_reducible refine Kd.C_alloc ?_ _) | (with_reducible refine Kd.C_drewN ?_ _) | (with_reducible refine Kd.C_drew ?_))); (case side2 => exact (Kd.R_reads' HO424.out).2.1); (case side3 => repeat (first | exact (Kd.Q_reads' HO428.out).2.2 | (with_reducible refine Kd.C_alloc ?_ _) | (with_reducible refine Kd.C_drewN ?_ _) | (with_reducible refine Kd.C_drew ?_))); (case side4 => exact (Kd.Q_reads' HO428.out).2.1); rintro e w' ⟨rfl, ⟨nd, rfl⟩⟩; (try first | exact ⟨rfl, _, World.drewN_drewN _ _ _⟩ | exact ⟨rfl, _, Eq.trans (World.drewN_drewN _ _ _) (congrArg (World.drewN _) (Nat.add_assoc _ _ _))⟩))); try go_wp2_with (first | (go_at_call 17; (with_reducible refine (laws_qSame.calls k _ _ t401 _ _ t405 true _ ?side1 ?side2 ?side3 ?side4 A26.out).mono ?_); (case side1 => repeat (first | exact (Kd.R_reads' HO404.out).2.2 | (with_reducible refine Kd.C_alloc ?_ _) | (with_reducible refine Kd.C_drewN ?_ _) | (with_reducible refine Kd.C_drew ?_))); (case side2 => exact (Kd.R_reads' HO404.out).2.1); (case side3 => repeat (first | exact (Kd.R_reads' HO408.out).2.2 | (with_reducible refine Kd.C_alloc ?_ _) | (with_reducible refine Kd.C_drewN ?_ _) | (with_reducible refine Kd.C_drew ?_))); (case side4 => exact (Kd.R_reads' HO408.out).2.1); rintro e w' ⟨rfl, ⟨nd, rfl⟩⟩; (try first | exact ⟨rfl, _, World.drewN_drewN _ _ _⟩ | exact ⟨rfl, _, Eq.trans (World.drewN_drewN _ _ _) (congrArg (World.drewN _) (Nat.add_assoc _ _ _))⟩); obtain ⟨Ao41, co41, eo41⟩ := Kd.R_slice HO412.out; subst eo41; obtain ⟨Ao42, co42, eo42⟩ := Kd.R_slice HO416.out; subst eo42) | (go_at_call 17; (with_reducible refine (laws_qSame.calls k _ _ t409 _ _ t413 true _ ?side1 ?side2 ?side3 ?side4 A29.out).mono ?_); (case side1 => repeat (first | exact (Kd.R_reads' HO412.out).2.2 | (with_reducible refine Kd.C_alloc ?_ _) | (with_reducible refine Kd.C_drewN ?_ _) | (with_reducible refine Kd.C_drew ?_))); (case side2 => exact (Kd.R_reads' HO412.out).2.1); (case side3 => repeat (first | exact (Kd.R_reads' HO416.out).2.2 | (with_reducible refine Kd.C_alloc ?_ _) | (with_reducible refine Kd.C_drewN ?_ _) | (with_reducible refine Kd.C_drew ?_))); (case side4 => exact (Kd.R_reads' HO416.out).2.1); rintro e w' ⟨rfl, ⟨nd, rfl⟩⟩; (try first | exact ⟨rfl, _, World.drewN_drewN _ _ _⟩ | exact ⟨rfl, _, Eq.trans (World.drewN_drewN _ _ _) (congrArg (World.drewN _) (Nat.add_assoc _ _ _))⟩); obtain ⟨Ao43, co43, eo43⟩ := Kd.R_slice HO424.out; subst eo43; obtain ⟨Ao44, co44, eo44, _⟩ := Kd.Q_slice HO428.out; subst eo44) | (go_at_call 17; (with_reducible refine (laws_qSame.calls k _ _ t421 _ _ t425 true _ ?side1 ?side2 ?side3 ?side4 A34.out).mono ?_); (case side1 => repeat (first | exact (Kd.R_reads' HO424.out).2.2 | (with_reducible refine Kd.C_alloc ?_ _) | (with_reducible refine Kd.C_drewN ?_ _) | (with_reducible refine Kd.C_drew ?_))); (case side2 => exact (Kd.R_reads' HO424.out).2.1); (case side3 => repeat (first | exact (Kd.Q_reads' HO428.out).2.2 | (with_reducible refine Kd.C_alloc ?_ _) | (with_reducible refine Kd.C_drewN ?_ _) | (with_reducible refine Kd.C_drew ?_))); (case side4 => exact (Kd.Q_reads' HO428.out).2.1); rintro e w' ⟨rfl, ⟨nd, rfl⟩⟩; (try first | exact ⟨rfl, _, World.drewN_drewN _ _ _⟩ | exact ⟨rfl, _, Eq.trans (World.drewN_drewN _ _ _) (congrArg (World.drewN _) (Nat.add_assoc _ _ _))⟩))))
               go_meet
               case rel => exact ⟨_, (!t410), (by first | rfl | (simp; done) | (simp [*]; done)), H', ⟨by first | omega | exact Nat.le_refl _⟩, ⟨by (with_reducible repeat (first | apply Kd.R_alloc | apply Kd.R_drewN | apply Kd.R_drew)); exact Kd.R_mono HO400.out (fun _ hk => ⟨hk.1.1.1.1.1.2, hk.1.1.1.2⟩)⟩, ⟨by (with_reducible repeat (first | apply Kd.R_alloc | apply Kd.R_drewN | apply Kd.R_drew)); exact Kd.R_mono HO404.out (fun _ hk => ⟨hk.1.1.1.1.1.2, hk.1.1.1.2⟩)⟩, ⟨by (with_reducible repeat (first | apply Kd.R_alloc | apply Kd.R_drewN | apply Kd.R_drew)); exact Kd.R_mono HO412.out (fun _ hk => ⟨hk.1.1.1.1.1.2, hk.1.1.1.1.2⟩)⟩, ⟨by repeat (first | (with_reducible first | exact HB.out | apply below_alloc | apply pw_below_drewN | apply below_drew1) | exact HB.out)⟩⟩
             ·replace c38 := Bool.eq_false_iff.mpr c38
              subst c38
              have H1 : (laws_FnAddedBackwards.j0 k l1 t397 t398 t401 false t409 t410 t417 false) = some r := by rw [if_neg (show ¬ (false = true) by decide)] at H; exact H
              clear H
              have H := H1
              clear H1
              as_aux_lemma =>
               have H' := Aside0.mk H
               clear H
               obtain ⟨Ao45, co45, eo45⟩ := Kd.R_slice HO404.out
               subst eo45
               obtain ⟨Ao46, co46, eo46⟩ := Kd.R_slice HO408.out
               subst eo46
               go_wp2_with (first | (go_at_call 17; (with_reducible refine (laws_qSame.calls k _ _ t401 _ _ t405 true _ ?side1 ?side2 ?side3 ?side4 A26.out).mono ?_); (case side1 => repeat (first | exact (Kd.R_reads' HO404.out).2.2 | (with_reducible refine Kd.C_alloc ?_ _) | (with_reducible refine Kd.C_drewN ?_ _) | (with_reducible refine Kd.C_drew ?_))); (case side2 => exact (Kd.R_reads' HO404.out).2.1); (case side3 => repeat (first | exact (Kd.R_reads' HO408.out).2.2 | (with_reducible refine Kd.C_alloc ?_ _) | (with_reducible refine Kd.C_drewN ?_ _) | (with_reducible refine Kd.C_drew ?_))); (case side4 => exact (Kd.R_reads' HO408.out).2.1); rintro e w' ⟨rfl, ⟨nd, rfl⟩⟩; (try first | exact ⟨rfl, _, World.drewN_drewN _ _ _⟩ | exact ⟨rfl, _, Eq.trans (World.drewN_drewN _ _ _) (congrArg (World.drewN _) (Nat.add_assoc _ _ _))⟩); obtain ⟨Ao47, co47, eo47⟩ := Kd.R_slice HO412.out; subst eo47; obtain ⟨Ao48, co48, eo48⟩ := Kd.R_slice HO416.out; subst eo48) | (go_at_call 17; (with_reducible refine (laws_qSame.calls k _ _ t409 _ _ t413 true _ ?side1 ?side2 ?side3 ?side4 A29.out).mono ?_); (case side1 => repeat (first | exact (Kd.R_reads' HO412.out).2.2 | (with_reducible refine Kd.C_alloc ?_ _) | (with_reducible refine Kd.C_drewN ?_ _) | (with_reducible refine Kd.C_drew ?_))); (case side2 => exact (Kd.R_reads' HO412.out).2.1); (case side3 => repeat (first | exact (Kd.R_reads' HO416.out).2.2 | (with_reducible refine Kd.C_alloc ?_ _) | (with_reducible refine Kd.C_drewN ?_ _) | (with_reducible refine Kd.C_drew ?_))); (case side4 => exact (Kd.R_reads' HO416.out).2.1); rintro e w' ⟨rfl, ⟨nd, rfl⟩⟩; (try first | exact ⟨rfl, _, World.drewN_drewN _ _ _⟩ | exact ⟨rfl, _, Eq.trans (World.drewN_drewN _ _ _) (congrArg (World.drewN _) (Nat.add_assoc _ _ _))⟩); obtain ⟨Ao49, co49, eo49⟩ := Kd.R_slice HO424.out; subst eo49; obtain ⟨Ao50, co50, eo50, _⟩ := Kd.Q_slice HO428.out; subst eo50) | (go_at_call 17; (with_reducible refine (laws_qSame.calls k _ _ t421 _ _ t425 true _ ?side1 ?side2 ?side3 ?side4 A34.out).mono ?_); (case side1 => repeat (first | exact (Kd.R_reads' HO424.out).2.2 | (with_reducible refine Kd.C_alloc ?_ _) | (with_reducible refine Kd.C_drewN ?_ _) | (with_reducible refine Kd.C_drew ?_))); (case side2 => exact (Kd.R_reads' HO424.out).2.1); (case side3 => repeat (first | exact (Kd.Q_reads' HO428.out).2.2 | (with_reducible refine Kd.C_alloc ?_ _) | (with_reducible refine Kd.C_drewN ?_ _) | (with_reducible refine Kd.C_drew ?_))); (case side4 => exact (Kd.Q_reads' HO428.out).2.1); rintro e w' ⟨rfl, ⟨nd, rfl⟩⟩; (try first | exact ⟨rfl, _, World.drewN_drewN _ _ _⟩ | exact ⟨rfl, _, Eq.trans (World.drewN_drewN _ _ _) (congrArg (World.drewN _) (Nat.add_assoc _ _ _))⟩)))
               repeat (go_quiet (first | (go_at_call 17; (with_reducible refine (laws_qSame.calls k _ _ t401 _ _ t405 true _ ?side1 ?side2 ?side3 ?side4 A26.out).mono ?_); (case side1 => repeat (first | exact (Kd.R_reads' HO404.out).2.2 | (with_reducible refine Kd.C_alloc ?_ _) | (with_reducible refine Kd.C_drewN ?_ _) | (with_reducible refine Kd.C_drew ?_))); (case side2 => exact (Kd.R_reads' HO404.out).2.1); (case side3 => repeat (first | exact (Kd.R_reads' HO408.out).2.2 | (with_reducible refine Kd.C_alloc ?_ _) | (with_reducible refine Kd.C_drewN ?_ _) | (with_reducible refine Kd.C_drew ?_))); (case side4 => exact (Kd.R_reads' HO408.out).2.1); rintro e w' ⟨rfl, ⟨nd, rfl⟩⟩; (try first | exact ⟨rfl, _, World.drewN_drewN _ _ _⟩ | exact ⟨rfl, _, Eq.trans (World.drewN_drewN _ _ _) (congrArg (World.drewN _) (Nat.add_assoc _ _ _))⟩); obtain ⟨Ao47, co47, eo47⟩ := Kd.R_slice HO412.out; subst eo47; obtain ⟨Ao48, co48, eo48⟩ := Kd.R_slice HO416.out; subst eo48) | (go_at_call 17; (with_reducible refine (laws_qSame.calls k _ _ t409 _ _ t413 true _ ?side1 ?side2 ?side3 ?side4 A29.out).mono ?_); (case side1 => repeat (first | exact (Kd.R_reads' HO412.out).2.2 | (with_reducible refine Kd.C_alloc ?_ _) | (with_reducible refine Kd.C_drewN ?_ _) | (with_reducible refine Kd.C_drew ?_))); (case side2 => exact (Kd.R_reads' HO412.out).2.1); (case side3 => repeat (first | exact (Kd.R_reads' HO416.out).2.2 | (with_reducible refine Kd.C_alloc ?_ _) | (with_reducible refine Kd.C_drewN ?_ _) | (with_reducible refine Kd.C_drew ?_))); (case side4 => exact (Kd.R_reads' HO416.out).2.1); rintro e w' ⟨rfl, ⟨nd, rfl⟩⟩; (try first | exact ⟨rfl, _, World.drewN_drewN _ _ _⟩ | exact ⟨rfl, _, Eq.trans (World.drewN_drewN _ _ _) (congrArg (World.drewN _) (Nat.add_assoc _ _ _))⟩); obtain ⟨Ao49, co49, eo49⟩ := Kd.R_slice HO424.out; subst eo49; obtain ⟨Ao50, co50, eo50, _⟩ := Kd.Q_slice HO428.out; subst eo50) | (go_at_call 17; (with_reducible refine (laws_qSame.calls k _ _ t421 _ _ t425 true _ ?side1 ?side2 ?side3 ?side4 A34.out).mono ?_); (case side1 => repeat (first | exact (Kd.R_reads' HO424.out).2.2 | (with_reducible refine Kd.C_alloc ?_ _) | (with_reducible refine Kd.C_drewN ?_ _) | (with_reducible refine Kd.C_drew ?_))); (case side2 => exact (Kd.R_reads' HO424.out).2.1); (case side3 => repeat (first | exact (Kd.Q_reads' HO428.out).2.2 | (with_reducible refine Kd.C_alloc ?_ _) | (with_reducible refine Kd.C_drewN ?_ _) | (with_reducible refine Kd.C_drew ?_))); (case side4 => exact (Kd.Q_reads' HO428.out).2.1); rintro e w' ⟨rfl, ⟨nd, rfl⟩⟩; (try first | exact ⟨rfl, _, World.drewN_drewN _ _ _⟩ | exact ⟨rfl, _, Eq.trans (World.drewN_drewN _ _ _) (congrArg (World.drewN _) (Nat.add_assoc _ _ _))⟩))); try go_wp2_with (first | (go_at_call 17; (with_reducible refine (laws_qSame.calls k _ _ t401 _ _ t405 true _ ?side1 ?side2 ?side3 ?side4 A26.out).mono ?_); (case side1 => repeat (first | exact (Kd.R_reads' HO404.out).2.2 | (with_reducible refine Kd.C_alloc ?_ _) | (with_reducible refine Kd.C_drewN ?_ _) | (with_reducible refine Kd.C_drew ?_))); (case side2 => exact (Kd.R_reads' HO404.out).2.1); (case side3 => repeat (first | exact (Kd.R_reads' HO408.out).2.2 | (with_reducible refine Kd.C_alloc ?_ _) | (with_reducible refine Kd.C_drewN ?_ _) | (with_reducible refine Kd.C_drew ?_))); (case side4 => exact (Kd.R_reads' HO408.out).2.1); rintro e w' ⟨rfl, ⟨nd, rfl⟩⟩; (try first | exact ⟨rfl, _, World.drewN_drewN _ _ _⟩ | exact ⟨rfl, _, Eq.trans (World.drewN_drewN _ _ _) (congrArg (World.drewN _) (Nat.add_assoc _ _ _))⟩); obtain ⟨Ao47, co47, eo47⟩ := Kd.R_slice HO412.out; subst eo47; obtain ⟨Ao48, co48, eo48⟩ := Kd.R_slice HO416.out; subst eo48) | (go_at_call 17; (with_reducible refine (laws_qSame.calls k _ _ t409 _ _ t413 true _ ?side1 ?side2 ?side3 ?side4 A29.out).mono ?_); (case side1 => repeat (first | exact (Kd.R_reads' HO412.out).2.2 | (with_reducible refine Kd.C_alloc ?_ _) | (with_reducible refine Kd.C_drewN ?_ _) | (with_reducible refine Kd.C_drew ?_))); (case side2 => exact (Kd.R_reads' HO412.out).2.1); (case side3 => repeat (first | exact (Kd.R_reads' HO416.out).2.2 | (with_reducible refine Kd.C_alloc ?_ _) | (with_reducible refine Kd.C_drewN ?_ _) | (with_reducible refine Kd.C_drew ?_))); (case side4 => exact (Kd.R_reads' HO416.out).2.1); rintro e w' ⟨rfl, ⟨nd, rfl⟩⟩; (try first | exact ⟨rfl, _, World.drewN_drewN _ _ _⟩ | exact ⟨rfl, _, Eq.trans (World.drewN_drewN _ _ _) (congrArg (World.drewN _) (Nat.add_assoc _ _ _))⟩); obtain ⟨Ao49, co49, eo49⟩ := Kd.R_slice HO424.out; subst eo49; obtain ⟨Ao50, co50, eo50, _⟩ := Kd.Q_slice HO428.out; subst eo50) | (go_at_call 17; (with_reducible refine (laws_qSame.calls k _ _ t421 _ _ t425 true _ ?side1 ?side2 ?side3 ?side4 A34.out).mono ?_); (case side1 => repeat (first | exact (Kd.R_reads' HO424.out).2.2 | (with_reducible refine Kd.C_alloc ?_ _) | (with_reducible refine Kd.C_drewN ?_ _) | (with_reducible refine Kd.C_drew ?_))); (case side2 => exact (Kd.R_reads' HO424.out).2.1); (case side3 => repeat (first | exact (Kd.Q_reads' HO428.out).2.2 | (with_reducible refine Kd.C_alloc ?_ _) | (with_reducible refine Kd.C_drewN ?_ _) | (with_reducible refine Kd.C_drew ?_))); (case side4 => exact (Kd.Q_reads' HO428.out).2.1); rintro e w' ⟨rfl, ⟨nd, rfl⟩⟩; (try first | exact ⟨rfl, _, World.drewN_drewN _ _ _⟩ | exact ⟨rfl, _, Eq.trans (World.drewN_drewN _ _ _) (congrArg (World.drewN _) (Nat.add_assoc _ _ _))⟩))))
               go_meet
               case rel => exact ⟨_, (false), (by first | rfl | (simp; done) | (simp [*]; done)), H', ⟨by first | omega | exact Nat.le_refl _⟩, ⟨by (with_reducible repeat (first | apply Kd.R_alloc | apply Kd.R_drewN | apply Kd.R_drew)); exact Kd.R_mono HO400.out (fun _ hk => ⟨hk.1.1.1.1.1.2, hk.1.1.1.2⟩)⟩, ⟨by (with_reducible repeat (first | apply Kd.R_alloc | apply Kd.R_drewN | apply Kd.R_drew)); exact Kd.R_mono HO404.out (fun _ hk => ⟨hk.1.1.1.1.1.2, hk.1.1.1.2⟩)⟩, ⟨by (with_reducible repeat (first | apply Kd.R_alloc | apply Kd.R_drewN | apply Kd.R_drew)); exact Kd.R_mono HO412.out (fun _ hk => ⟨hk.1.1.1.1.1.2, hk.1.1.1.1.2⟩)⟩, ⟨by repeat (first | (with_reducible first | exact HB.out | apply below_alloc | apply pw_below_drewN | apply below_drew1) | exact HB.out)⟩⟩
          ·replace c35 := Bool.eq_false_iff.mpr c35
           subst c35
           have H1 : (none) = some r := by rw [if_neg (show ¬ (false = true) by decide)] at H; exact H
           clear H
           have H := H1
           clear H1
           exact absurd H (by simp)
      ·replace c30 := Bool.eq_false_iff.mpr c30
       subst c30
       have H1 : (none) = some r := by rw [if_neg (show ¬ (false = true) by decide)] at H; exact H
       clear H
       have H := H1
       clear H1
       exact absurd H (by simp)
    ·replace c27 := Bool.eq_false_iff.mpr c27
     subst c27
     have H1 : (none) = some r := by rw [if_neg (show ¬ (false = true) by decide)] at H; exact H
     clear H
     have H := H1
     clear H1
     exact absurd H (by simp)
  case rest =>
   clear HC14
   try clear c1
   try clear c2
   try clear p2
   try clear c3
   try clear c4
   try clear c7
   try clear c25
   try clear c25b0
   try clear c25b1
   try clear c25b2
   try clear c27
   try clear c28
   try clear c28b0
   try clear c28b1
   try clear c28b2
   try clear c30
   try clear c31
   try clear c31b0
   try clear c31b1
   try clear c31b2
   try clear c32
   try clear c32b0
   try clear c32b1
   try clear c32b2
   try clear c33
   try clear c33b0
   try clear c33b1
   try clear c33b2
   try clear c35
   try clear c36
   try clear c36b0
   try clear c36b1
   try clear c36b2
   try clear c37
   try clear c37b0
   try clear c37b1
   try clear c37b2
   try clear c38
   obtain ⟨kq, x151_13, rfl, HA, HJ13, HO_5, HO_7, HO_11, HB⟩ := hcut
   cases kq with
   | zero => exact absurd HA.out (by simp [laws_FnAddedBackwards.j0])
   | succ kj13 =>
    have H := HA.out
    clear HA
    simp only [laws_FnAddedBackwards.j0] at H
    by_cases c51 : x151_13 = true
    ·subst c51
     have H1 : (none) = some r := by rw [if_pos rfl] at H; exact H
     clear H
     have H := H1
     clear H1
     exact absurd H (by simp)
    ·replace c51 := Bool.eq_false_iff.mpr c51
     subst c51
     have H1 : (if t410 = true then (if (t409.length : Int) = (t397.length : Int) then ((laws_qSum.f kj13 t409).bind fun t432 => (if (t417 != (t432 == 0)) = true then (none) else ((laws_qBack.f kj13 t397).bind fun t433 => (if t402 = true then (if 0 ≤ (wrap64 ((t397.length : Int) - 1)) then (if (wrap64 ((t397.length : Int) - 1)) < (t409.length : Int) then (if (t401.length : Int) = (wrap64 ((t397.length : Int) + (rd t409 (wrap64 ((t397.length : Int) - 1))))) then (laws_FnAddedBackwards.l0 kj13 l1 t397 t398 t401 t409 t417 (t397.length : Int) t433 (rd t409 (wrap64 ((t397.length : Int) - 1))) 0 (wrap64 ((t397.length : Int) - 1))) else (none)) else (none)) else (none)) else (laws_FnAddedBackwards.j3 kj13 l1))))) else (none)) else (laws_FnAddedBackwards.j3 kj13 l1)) = some r := by rw [if_neg (show ¬ (false = true) by decide)] at H; exact H
     clear H
     have H := H1
     clear H1
     have HC52 := Aside0.mk H
     clear H
     go_upto_if 152 with (fail)
     repeat (go_quiet (fail); go_upto_if 152 with (fail))
     go_cut [] (fun wc => ∃ (kq : Nat), Aside0 (laws_FnAddedBackwards.j3 kq l1 = some r) ∧ Aside0 (kq ≤ kj13) ∧ Aside0 (Below w.heap.size w wc))
     case first =>
      have H := HC52.out
      clear HC52
      by_cases c53 : t410 = true
      ·subst c53
       have H1 : (if (t409.length : Int) = (t397.length : Int) then ((laws_qSum.f kj13 t409).bind fun t432 => (if (t417 != (t432 == 0)) = true then (none) else ((laws_qBack.f kj13 t397).bind fun t433 => (if t402 = true then (if 0 ≤ (wrap64 ((t397.length : Int) - 1)) then (if (wrap64 ((t397.length : Int) - 1)) < (t409.length : Int) then (if (t401.length : Int) = (wrap64 ((t397.length : Int) + (rd t409 (wrap64 ((t397.length : Int) - 1))))) then (laws_FnAddedBackwards.l0 kj13 l1 t397 t398 t401 t409 t417 (t397.length : Int) t433 (rd t409 (wrap64 ((t397.length : Int) - 1))) 0 (wrap64 ((t397.length : Int) - 1))) else (none)) else (none)) else (none)) else (laws_FnAddedBackwards.j3 kj13 l1))))) else (none)) = some r := by rw [if_pos rfl] at H; exact H
       clear H
       have H := H1
       clear H1
       by_cases c54 : (t409.length : Int) = (t397.length : Int)
       ·rw [if_pos c54] at H
        have c54b0 : ((t409.length : Int) == (t397.length : Int)) = true := beq_iff_eq.mpr c54
        have c54b1 : ((t409.length : Int) != (t397.length : Int)) = false := bne_eq_false_iff_eq.mpr c54
        have c54b2 : (t409.length == t397.length) = true := by first | simpa using c54 | (simp at c54 ⊢; omega)
        clear c54
        (first | rw [c54b0] | (simp only [i64_w, i32_w]; rw [c54b0]) | skip)
        replace H := Option.bind_eq_some_iff.mp H
        obtain ⟨t432, A550, H⟩ := H
        replace H : (if (t417 != (t432 == 0)) = true then (none) else ((laws_qBack.f kj13 t397).bind fun t433 => (if t402 = true then (if 0 ≤ (wrap64 ((t397.length : Int) - 1)) then (if (wrap64 ((t397.length : Int) - 1)) < (t409.length : Int) then (if (t401.length : Int) = (wrap64 ((t397.length : Int) + (rd t409 (wrap64 ((t397.length : Int) - 1))))) then (laws_FnAddedBackwards.l0 kj13 l1 t397 t398 t401 t409 t417 (t397.length : Int) t433 (rd t409 (wrap64 ((t397.length : Int) - 1))) 0 (wrap64 ((t397.length : Int) - 1))) else (none)) else (none)) else (none)) else (laws_FnAddedBackwards.j3 kj13 l1)))) = some r := H
        have A55 := Aside0.mk A550
        clear A550
        by_cases c56 : (t417 != (t432 == 0)) = true
        ·rw [if_pos c56] at H
         exact absurd H (by simp)
        ·rw [if_neg c56] at H
         have c56b0 : (t417 != (t432 == 0)) = false := by simpa using c56
         (try (have c56b1 : decide (t417 = (t432 == 0)) = true := by simpa using c56))
         (try (have c56b2 : (t417 == (t432 == 0)) = true := by simpa using c56))
         clear c56
         replace H := Option.bind_eq_some_iff.mp H
         obtain ⟨t433, A570, H⟩ := H
         replace H : (if t402 = true then (if 0 ≤ (wrap64 ((t397.length : Int) - 1)) then (if (wrap64 ((t397.length : Int) - 1)) < (t409.length : Int) then (if (t401.length : Int) = (wrap64 ((t397.length : Int) + (rd t409 (wrap64 ((t397.length : Int) - 1))))) then (laws_FnAddedBackwards.l0 kj13 l1 t397 t398 t401 t409 t417 (t397.length : Int) t433 (rd t409 (wrap64 ((t397.length : Int) - 1))) 0 (wrap64 ((t397.length : Int) - 1))) else (none)) else (none)) else (none)) else (laws_FnAddedBackwards.j3 kj13 l1)) = some r := H
         have A57 := Aside0.mk A570
         clear A570
         by_cases c58 : t402 = true
         ·subst c58
          have H1 : (if 0 ≤ (wrap64 ((t397.length : Int) - 1)) then (if (wrap64 ((t397.length : Int) - 1)) < (t409.length : Int) then (if (t401.length : Int) = (wrap64 ((t397.length : Int) + (rd t409 (wrap64 ((t397.length : Int) - 1))))) then (laws_FnAddedBackwards.l0 kj13 l1 t397 t398 t401 t409 t417 (t397.length : Int) t433 (rd t409 (wrap64 ((t397.length : Int) - 1))) 0 (wrap64 ((t397.length : Int) - 1))) else (none)) else (none)) else (none)) = some r := by rw [if_pos rfl] at H; exact H
          clear H
          have H := H1
          clear H1
          obtain ⟨ji59, hji59⟩ : ∃ j_ : Int, (wrap64 ((t397.length : Int) - 1)) = j_ := ⟨_, rfl⟩
          replace H : (if 0 ≤ (ji59) then (if (ji59) < (t409.length : Int) then (if (t401.length : Int) = (wrap64 ((t397.length : Int) + (rd t409 (ji59)))) then (laws_FnAddedBackwards.l0 kj13 l1 t397 t398 t401 t409 t417 (t397.length : Int) t433 (rd t409 (ji59)) 0 ji59) else (none)) else (none)) else (none)) = some r := by first | (rw [hji59] at H; exact H) | (simp only [hji59] at H ⊢; exact H)
          (try rw [hji59] at A55)
          (try rw [hji59] at A57)
          have hji59w : (IntKind.i64.wrap ((t397.length : Int) - 1)) = ji59 := (i64_w _).trans hji59
          by_cases c60 : 0 ≤ (ji59)
          ·rw [if_pos c60] at H
           have c60b0 : decide (0 ≤ (ji59)) = true := decide_eq_true c60
           clear c60
           by_cases c61 : (ji59) < (t409.length : Int)
           ·rw [if_pos c61] at H
            have c61b0 : decide ((ji59) < (t409.length : Int)) = true := decide_eq_true c61
            clear c61
            by_cases c62 : (t401.length : Int) = (wrap64 ((t397.length : Int) + (rd t409 (ji59))))
            ·rw [if_pos c62] at H
             have c62b0 : ((t401.length : Int) == (wrap64 ((t397.length : Int) + (rd t409 (ji59))))) = true := beq_iff_eq.mpr c62
             have c62b1 : ((t401.length : Int) != (wrap64 ((t397.length : Int) + (rd t409 (ji59))))) = false := bne_eq_false_iff_eq.mpr c62
             clear c62
             have H' := Aside0.mk H
             clear H
             obtain ⟨Ao63, co63, eo63⟩ := Kd.R_slice HO_11.out
             subst eo63
             go_wp2_with (first | (go_at_call 69; (with_reducible refine (laws_qSum.calls kj13 _ _ t409 t432 _ ?side1 ?side2 A55.out).mono ?_); (case side1 => repeat (first | exact (Kd.R_reads' HO_11.out).2.2 | (with_reducible refine Kd.C_alloc ?_ _) | (with_reducible refine Kd.C_drewN ?_ _) | (with_reducible refine Kd.C_drew ?_))); (case side2 => exact (Kd.R_reads' HO_11.out).2.1); rintro e w' ⟨rfl, ⟨nd, rfl⟩⟩; (try first | exact ⟨rfl, _, World.drewN_drewN _ _ _⟩ | exact ⟨rfl, _, Eq.trans (World.drewN_drewN _ _ _) (congrArg (World.drewN _) (Nat.add_assoc _ _ _))⟩)) | (go_at_call 70; (with_reducible refine (laws_qBack.calls kj13 _ _ t397 t433 _ ?side1 ?side2 A57.out).mono ?_); (case side1 => repeat (first | exact (Kd.R_reads' HO_5.out).2.2 | (with_reducible refine Kd.C_alloc ?_ _) | (with_reducible refine Kd.C_drewN ?_ _) | (with_reducible refine Kd.C_drew ?_))); (case side2 => exact (Kd.R_reads' HO_5.out).2.1); rintro e w64 ⟨v434, rfl, ho0, hb⟩; have n0_ := Aside0.mk (Kd.R_elder' (by (with_reducible repeat (first | apply Kd.R_alloc | apply Kd.R_drewN | apply Kd.R_drew)); exact HO_5.out) (Kd.R_base ho0) hb); have n1_ := Aside0.mk (Kd.R_elder' (by (with_reducible repeat (first | apply Kd.R_alloc | apply Kd.R_drewN | apply Kd.R_drew)); exact HO_7.out) (Kd.R_base ho0) hb); have n2_ := Aside0.mk (Kd.R_elder' (by (with_reducible repeat (first | apply Kd.R_alloc | apply Kd.R_drewN | apply Kd.R_drew)); exact HO_11.out) (Kd.R_base ho0) hb); have n3_ := Aside0.mk (Kd.R_lower (Kd.R_new' (Kd.R_new' (Kd.R_new' ho0 (Kd.R_lt (by (with_reducible repeat (first | apply Kd.R_alloc | apply Kd.R_drewN | apply Kd.R_drew)); exact HO_5.out))) (Kd.R_lt (by (with_reducible repeat (first | apply Kd.R_alloc | apply Kd.R_drewN | apply Kd.R_drew)); exact HO_7.out))) (Kd.R_lt (by (with_reducible repeat (first | apply Kd.R_alloc | apply Kd.R_drewN | apply Kd.R_drew)); exact HO_11.out))) (below_size (by repeat (first | (with_reducible first | exact HB.out | apply below_alloc | apply pw_below_drewN | apply below_drew1) | exact HB.out)))); have n4_ := Aside0.mk (below_step (by repeat (first | (with_reducible first | exact HB.out | apply below_alloc | apply pw_below_drewN | apply below_drew1) | exact HB.out)) hb); clear HO_5; clear HO_7; clear HO_11; clear HB; have HO_5 := n0_; have HO_7 := n1_; have HO_11 := n2_; have HO435 := n3_; have HB := n4_; clear n0_ n1_ n2_ n3_ n4_; (try clear hb); (try clear hb2); (try clear hk); (try clear hi); (try clear ho0); have p436 : 0 ≤ ((ji59) : Int) := of_decide_eq_true (by first | (with_reducible assumption) | assumption); have q436 : (ji59) < (t409.length : Int) := of_decide_eq_true (by first | (with_reducible assumption) | assumption); obtain ⟨ad436, e436, hx436_0⟩ := Kd.at_int (Kd.R_reads' HO_11.out).2.2 (ji59) p436 q436; cases e436; replace p436 := eq_true p436; replace q436 := eq_true q436; obtain ⟨Ao65, co65, eo65⟩ := Kd.R_slice HO_7.out; subst eo65))
             repeat (go_quiet (first | (go_at_call 69; (with_reducible refine (laws_qSum.calls kj13 _ _ t409 t432 _ ?side1 ?side2 A55.out).mono ?_); (case side1 => repeat (first | exact (Kd.R_reads' HO_11.out).2.2 | (with_reducible refine Kd.C_alloc ?_ _) | (with_reducible refine Kd.C_drewN ?_ _) | (with_reducible refine Kd.C_drew ?_))); (case side2 => exact (Kd.R_reads' HO_11.out).2.1); rintro e w' ⟨rfl, ⟨nd, rfl⟩⟩; (try first | exact ⟨rfl, _, World.drewN_drewN _ _ _⟩ | exact ⟨rfl, _, Eq.trans (World.drewN_drewN _ _ _) (congrArg (World.drewN _) (Nat.add_assoc _ _ _))⟩)) | (go_at_call 70; (with_reducible refine (laws_qBack.calls kj13 _ _ t397 t433 _ ?side1 ?side2 A57.out).mono ?_); (case side1 => repeat (first | exact (Kd.R_reads' HO_5.out).2.2 | (with_reducible refine Kd.C_alloc ?_ _) | (with_reducible refine Kd.C_drewN ?_ _) | (with_reducible refine Kd.C_drew ?_))); (case side2 => exact (Kd.R_reads' HO_5.out).2.1); rintro e w64 ⟨v434, rfl, ho0, hb⟩; have n0_ := Aside0.mk (Kd.R_elder' (by (with_reducible repeat (first | apply Kd.R_alloc | apply Kd.R_drewN | apply Kd.R_drew)); exact HO_5.out) (Kd.R_base ho0) hb); have n1_ := Aside0.mk (Kd.R_elder' (by (with_reducible repeat (first | apply Kd.R_alloc | apply Kd.R_drewN | apply Kd.R_drew)); exact HO_7.out) (Kd.R_base ho0) hb); have n2_ := Aside0.mk (Kd.R_elder' (by (with_reducible repeat (first | apply Kd.R_alloc | apply Kd.R_drewN | apply Kd.R_drew)); exact HO_11.out) (Kd.R_base ho0) hb); have n3_ := Aside0.mk (Kd.R_lower (Kd.R_new' (Kd.R_new' (Kd.R_new' ho0 (Kd.R_lt (by (with_reducible repeat (first | apply Kd.R_alloc | apply Kd.R_drewN | apply Kd.R_drew)); exact HO_5.out))) (Kd.R_lt (by (with_reducible repeat (first | apply Kd.R_alloc | apply Kd.R_drewN | apply Kd.R_drew)); exact HO_7.out))) (Kd.R_lt (by (with_reducible repeat (first | apply Kd.R_alloc | apply Kd.R_drewN | apply Kd.R_drew)); exact HO_11.out))) (below_size (by repeat (first | (with_reducible first | exact HB.out | apply below_alloc | apply pw_below_drewN | apply below_drew1) | exact HB.out)))); have n4_ := Aside0.mk (below_step (by repeat (first | (with_reducible first | exact HB.out | apply below_alloc | apply pw_below_drewN | apply below_drew1) | exact HB.out)) hb); clear HO_5; clear HO_7; clear HO_11; clear HB; have HO_5 := n0_; have HO_7 := n1_; have HO_11 := n2_; have HO435 := n3_; have HB := n4_; clear n0_ n1_ n2_ n3_ n4_; (try clear hb); (try clear hb2); (try clear hk); (try clear hi); (try clear ho0); have p436 : 0 ≤ ((ji59) : Int) := of_decide_eq_true (by first | (with_reducible assumption) | assumption); have q436 : (ji59) < (t409.length : Int) := of_decide_eq_true (by first | (with_reducible assumption) | assumption); obtain ⟨ad436, e436, hx436_0⟩ := Kd.at_int (Kd.R_reads' HO_11.out).2.2 (ji59) p436 q436; cases e436; replace p436 := eq_true p436; replace q436 := eq_true q436; obtain ⟨Ao65, co65, eo65⟩ := Kd.R_slice HO_7.out; subst eo65)); try go_wp2_with (first | (go_at_call 69; (with_reducible refine (laws_qSum.calls kj13 _ _ t409 t432 _ ?side1 ?side2 A55.out).mono ?_); (case side1 => repeat (first | exact (Kd.R_reads' HO_11.out).2.2 | (with_reducible refine Kd.C_alloc ?_ _) | (with_reducible refine Kd.C_drewN ?_ _) | (with_reducible refine Kd.C_drew ?_))); (case side2 => exact (Kd.R_reads' HO_11.out).2.1); rintro e w' ⟨rfl, ⟨nd, rfl⟩⟩; (try first | exact ⟨rfl, _, World.drewN_drewN _ _ _⟩ | exact ⟨rfl, _, Eq.trans (World.drewN_drewN _ _ _) (congrArg (World.drewN _) (Nat.add_assoc _ _ _))⟩)) | (go_at_call 70; (with_reducible refine (laws_qBack.calls kj13 _ _ t397 t433 _ ?side1 ?side2 A57.out).mono ?_); (case side1 => repeat (first | exact (Kd.R_reads' HO_5.out).2.2 | (with_reducible refine Kd.C_alloc ?_ _) | (with_reducible refine Kd.C_drewN ?_ _) | (with_reducible refine Kd.C_drew ?_))); (case side2 => exact (Kd.R_reads' HO_5.out).2.1); rintro e w64 ⟨v434, rfl, ho0, hb⟩; have n0_ := Aside0.mk (Kd.R_elder' (by (with_reducible repeat (first | apply Kd.R_alloc | apply Kd.R_drewN | apply Kd.R_drew)); exact HO_5.out) (Kd.R_base ho0) hb); have n1_ := Aside0.mk (Kd.R_elder' (by (with_reducible repeat (first | apply Kd.R_alloc | apply Kd.R_drewN | apply Kd.R_drew)); exact HO_7.out) (Kd.R_base ho0) hb); have n2_ := Aside0.mk (Kd.R_elder' (by (with_reducible repeat (first | apply Kd.R_alloc | apply Kd.R_drewN | apply Kd.R_drew)); exact HO_11.out) (Kd.R_base ho0) hb); have n3_ := Aside0.mk (Kd.R_lower (Kd.R_new' (Kd.R_new' (Kd.R_new' ho0 (Kd.R_lt (by (with_reducible repeat (first | apply Kd.R_alloc | apply Kd.R_drewN | apply Kd.R_drew)); exact HO_5.out))) (Kd.R_lt (by (with_reducible repeat (first | apply Kd.R_alloc | apply Kd.R_drewN | apply Kd.R_drew)); exact HO_7.out))) (Kd.R_lt (by (with_reducible repeat (first | apply Kd.R_alloc | apply Kd.R_drewN | apply Kd.R_drew)); exact HO_11.out))) (below_size (by repeat (first | (with_reducible first | exact HB.out | apply below_alloc | apply pw_below_drewN | apply below_drew1) | exact HB.out)))); have n4_ := Aside0.mk (below_step (by repeat (first | (with_reducible first | exact HB.out | apply below_alloc | apply pw_below_drewN | apply below_drew1) | exact HB.out)) hb); clear HO_5; clear HO_7; clear HO_11; clear HB; have HO_5 := n0_; have HO_7 := n1_; have HO_11 := n2_; have HO435 := n3_; have HB := n4_; clear n0_ n1_ n2_ n3_ n4_; (try clear hb); (try clear hb2); (try clear hk); (try clear hi); (try clear ho0); have p436 : 0 ≤ ((ji59) : Int) := of_decide_eq_true (by first | (with_reducible assumption) | assumption); have q436 : (ji59) < (t409.length : Int) := of_decide_eq_true (by first | (with_reducible assumption) | assumption); obtain ⟨ad436, e436, hx436_0⟩ := Kd.at_int (Kd.R_reads' HO_11.out).2.2 (ji59) p436 q436; cases e436; replace p436 := eq_true p436; replace q436 := eq_true q436; obtain ⟨Ao65, co65, eo65⟩ := Kd.R_slice HO_7.out; subst eo65)))
             go_loopg [26, 27] kj13 (fun kq v26 v27 w' => ∃ (x26_2 : Int) (x27_2 : Int), v26 = .int .i64 x26_2 ∧ v27 = .int .i64 x27_2 ∧ Aside0 (laws_FnAddedBackwards.l0 kq l1 t397 t398 t401 t409 t417 (t397.length : Int) t433 (rd t409 (ji59)) x26_2 x27_2 = some r) ∧ Aside0 (kq ≤ kj13) ∧ Aside0 (Kd.R (Kd.int .i64) 3 w' w.heap.size (fun k_ => some k_ ≠ ((.slice Ao65 t401.length co65) : Value).ownBlock ∧ some k_ ≠ ((.slice (some ad436) t409.length co63) : Value).ownBlock ∧ some k_ ≠ (v434 : Value).ownBlock) (.slice Ao16 t397.length co16) t397) ∧ Aside0 (Kd.R (Kd.int .i64) 3 w' w.heap.size (fun k_ => some k_ ≠ ((.slice Ao16 t397.length co16) : Value).ownBlock ∧ some k_ ≠ ((.slice (some ad436) t409.length co63) : Value).ownBlock ∧ some k_ ≠ (v434 : Value).ownBlock) (.slice Ao65 t401.length co65) t401) ∧ Aside0 (Kd.R (Kd.int .i64) 3 w' w.heap.size (fun k_ => some k_ ≠ ((.slice Ao16 t397.length co16) : Value).ownBlock ∧ some k_ ≠ ((.slice Ao65 t401.length co65) : Value).ownBlock ∧ some k_ ≠ (v434 : Value).ownBlock) (.slice (some ad436) t409.length co63) t409) ∧ Aside0 (Kd.R (Kd.int .i64) 3 w' w.heap.size (fun k_ => some k_ ≠ ((.slice Ao16 t397.length co16) : Value).ownBlock ∧ some k_ ≠ ((.slice Ao65 t401.length co65) : Value).ownBlock ∧ some k_ ≠ ((.slice (some ad436) t409.length co63) : Value).ownBlock) v434 t433) ∧ Aside0 (Below w.heap.size w w'))
             case atStart => exact ⟨(0), (ji59), (by first | rfl | (simp; done) | (simp [*]; done)), (by first | rfl | (simp; done) | (simp only [← hji59] <;> (first | rfl | simp)) | (simp [*]; done)), H', ⟨Nat.le_refl _⟩, ⟨by (with_reducible repeat (first | apply Kd.R_alloc | apply Kd.R_drewN | apply Kd.R_drew)); exact Kd.R_mono HO_5.out (fun _ hk => ⟨hk.1.1, ⟨hk.1.2, hk.2⟩⟩)⟩, ⟨by (with_reducible repeat (first | apply Kd.R_alloc | apply Kd.R_drewN | apply Kd.R_drew)); exact Kd.R_mono HO_7.out (fun _ hk => ⟨hk.1.1, ⟨hk.1.2, hk.2⟩⟩)⟩, ⟨by (with_reducible repeat (first | apply Kd.R_alloc | apply Kd.R_drewN | apply Kd.R_drew)); exact Kd.R_mono HO_11.out (fun _ hk => ⟨hk.1.1, ⟨hk.1.2, hk.2⟩⟩)⟩, ⟨by (with_reducible repeat (first | apply Kd.R_alloc | apply Kd.R_drewN | apply Kd.R_drew)); exact Kd.R_mono HO435.out (fun _ hk => ⟨hk.1.1.2, ⟨hk.1.2, hk.2⟩⟩)⟩, ⟨by repeat (first | (with_reducible first | exact HB.out | apply below_alloc | apply pw_below_drewN | apply below_drew1) | exact HB.out)⟩⟩
             case round =>
              clear H'
              try clear c1
              try clear c2
              try clear p2
              try clear c3
              try clear c4
              try clear p4
              try clear q4
              try clear hx4
              try clear c5
              try clear c6
              try clear p6
              try clear c7
              try clear c25
              try clear c25b0
              try clear c25b1
              try clear c25b2
              try clear c27
              try clear c28
              try clear c28b0
              try clear c28b1
              try clear c28b2
              try clear c30
              try clear c31
              try clear c31b0
              try clear c31b1
              try clear c31b2
              try clear c32
              try clear c32b0
              try clear c32b1
              try clear c32b2
              try clear c33
              try clear c33b0
              try clear c33b1
              try clear c33b2
              try clear c35
              try clear c36
              try clear c36b0
              try clear c36b1
              try clear c36b2
              try clear c37
              try clear c37b0
              try clear c37b1
              try clear c37b2
              try clear c38
              try clear p43
              try clear q43
              try clear hx43
              try clear c51
              try clear c53
              try clear c54
              try clear c54b0
              try clear c54b1
              try clear c54b2
              try clear c56
              try clear c56b0
              try clear c56b1
              try clear c56b2
              try clear c58
              try clear c60
              try clear c60b0
              try clear c61
              try clear c61b0
              try clear c62
              try clear c62b0
              try clear c62b1
              try clear p64
              try clear hx436_0
              try clear p2
              try clear p436
              try clear q436
              obtain ⟨x26_2, x27_2, rfl, rfl, HA, HK2, HO_5, HO_7, HO_11, HO_24, HB⟩ := hrel
              cases gk with
              | zero => exact absurd HA.out (by simp [laws_FnAddedBackwards.l0])
              | succ k2 =>
               have H := HA.out
               clear HA
               simp only [laws_FnAddedBackwards.l0] at H
               by_cases c66 : x27_2 ≥ 0
               ·rw [if_pos c66] at H
                have c66b0 : decide (0 ≤ x27_2) = true := decide_eq_true c66
                clear c66
                by_cases c67 : 0 ≤ x27_2
                ·rw [if_pos c67] at H
                 have c67b0 : decide (0 ≤ x27_2) = true := decide_eq_true c67
                 clear c67
                 by_cases c68 : x27_2 < (t397.length : Int)
                 ·rw [if_pos c68] at H
                  have c68b0 : decide (x27_2 < (t397.length : Int)) = true := decide_eq_true c68
                  clear c68
                  by_cases c69 : x27_2 < (t433.length : Int)
                  ·rw [if_pos c69] at H
                   have c69b0 : decide (x27_2 < (t433.length : Int)) = true := decide_eq_true c69
                   clear c69
                   obtain ⟨ji70, hji70⟩ : ∃ j_ : Int, (wrap64 ((rd t409 (ji59)) + x27_2)) = j_ := ⟨_, rfl⟩
                   replace H : (if 0 ≤ (ji70) then (if (ji70) < (t401.length : Int) then (if 0 ≤ (wrap64 ((wrap64 ((t397.length : Int) - 1)) - x27_2)) then (if (wrap64 ((wrap64 ((t397.length : Int) - 1)) - x27_2)) < (t409.length : Int) then (if (wrap64 ((wrap64 ((rd t397 x27_2) + (rd t433 x27_2))) + x26_2)) = (wrap64 ((rd t401 (ji70)) + (wrap64 (t398 * (rd t409 (wrap64 ((wrap64 ((t397.length : Int) - 1)) - x27_2))))))) then (laws_FnAddedBackwards.l0 k2 l1 t397 t398 t401 t409 t417 (t397.length : Int) t433 (rd t409 (ji59)) (rd t409 (wrap64 ((wrap64 ((t397.length : Int) - 1)) - x27_2))) (wrap64 (x27_2 - 1))) else (none)) else (none)) else (none)) else (none)) else (none)) = some r := by first | (rw [hji70] at H; exact H) | (simp only [hji70] at H ⊢; exact H)
                   have hji70w : (IntKind.i64.wrap ((rd t409 (ji59)) + x27_2)) = ji70 := (i64_w _).trans hji70
                   by_cases c71 : 0 ≤ (ji70)
                   ·rw [if_pos c71] at H
                    have c71b0 : decide (0 ≤ (ji70)) = true := decide_eq_true c71
                    clear c71
                    by_cases c72 : (ji70) < (t401.length : Int)
                    ·rw [if_pos c72] at H
                     have c72b0 : decide ((ji70) < (t401.length : Int)) = true := decide_eq_true c72
                     clear c72
                     obtain ⟨ji73, hji73⟩ : ∃ j_ : Int, (wrap64 ((wrap64 ((t397.length : Int) - 1)) - x27_2)) = j_ := ⟨_, rfl⟩
                     replace H : (if 0 ≤ (ji73) then (if (ji73) < (t409.length : Int) then (if (wrap64 ((wrap64 ((rd t397 x27_2) + (rd t433 x27_2))) + x26_2)) = (wrap64 ((rd t401 (ji70)) + (wrap64 (t398 * (rd t409 (ji73)))))) then (laws_FnAddedBackwards.l0 k2 l1 t397 t398 t401 t409 t417 (t397.length : Int) t433 (rd t409 (ji59)) (rd t409 (ji73)) (wrap64 (x27_2 - 1))) else (none)) else (none)) else (none)) = some r := by first | (rw [hji73] at H; exact H) | (simp only [hji73] at H ⊢; exact H)
                     have hji73w : (IntKind.i64.wrap ((wrap64 ((t397.length : Int) - 1)) - x27_2)) = ji73 := (i64_w _).trans hji73
                     (try rw [hji59] at hji73w)
                     by_cases c74 : 0 ≤ (ji73)
                     ·rw [if_pos c74] at H
                      have c74b0 : decide (0 ≤ (ji73)) = true := decide_eq_true c74
                      clear c74
                      by_cases c75 : (ji73) < (t409.length : Int)
                      ·rw [if_pos c75] at H
                       have c75b0 : decide ((ji73) < (t409.length : Int)) = true := decide_eq_true c75
                       clear c75
                       by_cases c76 : (wrap64 ((wrap64 ((rd t397 x27_2) + (rd t433 x27_2))) + x26_2)) = (wrap64 ((rd t401 (ji70)) + (wrap64 (t398 * (rd t409 (ji73))))))
                       ·rw [if_pos c76] at H
                        have c76b0 : ((wrap64 ((wrap64 ((rd t397 x27_2) + (rd t433 x27_2))) + x26_2)) == (wrap64 ((rd t401 (ji70)) + (wrap64 (t398 * (rd t409 (ji73))))))) = true := beq_iff_eq.mpr c76
                        have c76b1 : ((wrap64 ((wrap64 ((rd t397 x27_2) + (rd t433 x27_2))) + x26_2)) != (wrap64 ((rd t401 (ji70)) + (wrap64 (t398 * (rd t409 (ji73))))))) = false := bne_eq_false_iff_eq.mpr c76
                        clear c76
                        as_aux_lemma =>
                         have H' := Aside0.mk H
                         clear H
                         have p437 : 0 ≤ (x27_2 : Int) := of_decide_eq_true (by first | (with_reducible assumption) | assumption)
                         have q437 : x27_2 < (t397.length : Int) := of_decide_eq_true (by first | (with_reducible assumption) | assumption)
                         obtain ⟨ad437, e437, hx437_0⟩ := Kd.at_int (Kd.R_reads' HO_5.out).2.2 x27_2 p437 q437
                         cases e437
                         replace p437 := eq_true p437
                         replace q437 := eq_true q437
                         obtain ⟨Ao77, co77, eo77⟩ := Kd.R_slice HO_24.out
                         subst eo77
                         have p438 : 0 ≤ (x27_2 : Int) := of_decide_eq_true (by first | (with_reducible assumption) | assumption)
                         have q438 : x27_2 < (t433.length : Int) := of_decide_eq_true (by first | (with_reducible assumption) | assumption)
                         obtain ⟨ad438, e438, hx438_0⟩ := Kd.at_int (Kd.R_reads' HO_24.out).2.2 x27_2 p438 q438
                         cases e438
                         replace p438 := eq_true p438
                         replace q438 := eq_true q438
                         have p439 : 0 ≤ ((ji70) : Int) := of_decide_eq_true (by first | (with_reducible assumption) | assumption)
                         have q439 : (ji70) < (t401.length : Int) := of_decide_eq_true (by first | (with_reducible assumption) | assumption)
                         obtain ⟨ad439, e439, hx439_0⟩ := Kd.at_int (Kd.R_reads' HO_7.out).2.2 (ji70) p439 q439
                         cases e439
                         replace p439 := eq_true p439
                         replace q439 := eq_true q439
                         have p440 : 0 ≤ ((ji73) : Int) := of_decide_eq_true (by first | (with_reducible assumption) | assumption)
                         have q440 : (ji73) < (t409.length : Int) := of_decide_eq_true (by first | (with_reducible assumption) | assumption)
                         obtain ⟨ad440, e440, hx440_0⟩ := Kd.at_int (Kd.R_reads' HO_11.out).2.2 (ji73) p440 q440
                         obtain rfl : ad436 = ad440 := (by injection e440)
                         replace p440 := eq_true p440
                         replace q440 := eq_true q440
                         have p441 : 0 ≤ ((ji73) : Int) := of_decide_eq_true (by first | (with_reducible assumption) | assumption)
                         have q441 : (ji73) < (t409.length : Int) := of_decide_eq_true (by first | (with_reducible assumption) | assumption)
                         obtain ⟨ad441, e441, hx441_0⟩ := Kd.at_int (Kd.R_reads' HO_11.out).2.2 (ji73) p441 q441
                         obtain rfl : ad436 = ad441 := (by injection e441)
                         replace p441 := eq_true p441
                         replace q441 := eq_true q441
                         go_wp2
                         repeat (go_quiet (fail); try go_wp2)
                         go_roundg k2
                         case measure => have := HJ13.out; have := HK2.out; omega
                         case rel => exact ⟨(rd t409 (ji73)), (wrap64 (x27_2 - 1)), (by first | rfl | (simp; done) | (simp only [← hji73] <;> (first | rfl | simp)) | (simp [*]; done)), (by first | rfl | (simp; done) | (simp [*]; done)), H', ⟨by have := HJ13.out; have := HK2.out; omega⟩, ⟨by (with_reducible repeat (first | apply Kd.R_alloc | apply Kd.R_drewN | apply Kd.R_drew)); exact HO_5.out⟩, ⟨by (with_reducible repeat (first | apply Kd.R_alloc | apply Kd.R_drewN | apply Kd.R_drew)); exact HO_7.out⟩, ⟨by (with_reducible repeat (first | apply Kd.R_alloc | apply Kd.R_drewN | apply Kd.R_drew)); exact HO_11.out⟩, ⟨by (with_reducible repeat (first | apply Kd.R_alloc | apply Kd.R_drewN | apply Kd.R_drew)); exact HO_24.out⟩, ⟨by repeat (first | (with_reducible first | exact HB.out | apply below_alloc | apply pw_below_drewN | apply below_drew1) | exact HB.out)⟩⟩
                       ·rw [if_neg c76] at H
                        exact absurd H (by simp)
                      ·rw [if_neg c75] at H
                       exact absurd H (by simp)
                     ·rw [if_neg c74] at H
                      exact absurd H (by simp)
                    ·rw [if_neg c72] at H
                     exact absurd H (by simp)
                   ·rw [if_neg c71] at H
                    exact absurd H (by simp)
                  ·rw [if_neg c69] at H
                   exact absurd H (by simp)
                 ·rw [if_neg c68] at H
                  exact absurd H (by simp)
                ·rw [if_neg c67] at H
                 exact absurd H (by simp)
               ·rw [if_neg c66] at H
                have c66b0 : decide (0 ≤ x27_2) = false := decide_eq_false c66
                clear c66
                replace H := Option.bind_eq_some_iff.mp H
                obtain ⟨⟨t442, t443⟩, A780, H⟩ := H
                replace H : (if t443 = true then (if t417 = true then (laws_FnAddedBackwards.j2 k2 l1 t397 t398 t401 (t397.length : Int) t433 (!t442)) else (laws_FnAddedBackwards.j2 k2 l1 t397 t398 t401 (t397.length : Int) t433 false)) else (none)) = some r := H
                have A78 := Aside0.mk A780
                clear A780
                have HC79 := Aside0.mk H
                clear H
                go_upto_region 31 with (first | (go_at_call 71; (with_reducible refine (impl_IsSymmetric.calls k2 _ _ t401 t398 t442 t443 _ ?side1 ?side2 A78.out).mono ?_); (case side1 => repeat (first | exact (Kd.R_reads' HO_7.out).2.2 | (with_reducible refine Kd.C_alloc ?_ _) | (with_reducible refine Kd.C_drewN ?_ _) | (with_reducible refine Kd.C_drew ?_))); (case side2 => exact (Kd.R_reads' HO_7.out).2.1); rintro e w80 ⟨rfl, hb⟩; have n0_ := Aside0.mk (Kd.R_below (by (with_reducible repeat (first | apply Kd.R_alloc | apply Kd.R_drewN | apply Kd.R_drew)); exact HO_5.out) hb); have n1_ := Aside0.mk (Kd.R_below (by (with_reducible repeat (first | apply Kd.R_alloc | apply Kd.R_drewN | apply Kd.R_drew)); exact HO_7.out) hb); have n2_ := Aside0.mk (Kd.R_below (by (with_reducible repeat (first | apply Kd.R_alloc | apply Kd.R_drewN | apply Kd.R_drew)); exact HO_11.out) hb); have n3_ := Aside0.mk (Kd.R_below (by (with_reducible repeat (first | apply Kd.R_alloc | apply Kd.R_drewN | apply Kd.R_drew)); exact HO_24.out) hb); have n4_ := Aside0.mk (below_step (by repeat (first | (with_reducible first | exact HB.out | apply below_alloc | apply pw_below_drewN | apply below_drew1) | exact HB.out)) hb); clear HO_5; clear HO_7; clear HO_11; clear HO_24; clear HB; have HO_5 := n0_; have HO_7 := n1_; have HO_11 := n2_; have HO_24 := n3_; have HB := n4_; clear n0_ n1_ n2_ n3_ n4_; (try clear hb); (try clear hb2); (try clear hk); (try clear hi)))
                repeat (go_quiet (first | (go_at_call 71; (with_reducible refine (impl_IsSymmetric.calls k2 _ _ t401 t398 t442 t443 _ ?side1 ?side2 A78.out).mono ?_); (case side1 => repeat (first | exact (Kd.R_reads' HO_7.out).2.2 | (with_reducible refine Kd.C_alloc ?_ _) | (with_reducible refine Kd.C_drewN ?_ _) | (with_reducible refine Kd.C_drew ?_))); (case side2 => exact (Kd.R_reads' HO_7.out).2.1); rintro e w80 ⟨rfl, hb⟩; have n0_ := Aside0.mk (Kd.R_below (by (with_reducible repeat (first | apply Kd.R_alloc | apply Kd.R_drewN | apply Kd.R_drew)); exact HO_5.out) hb); have n1_ := Aside0.mk (Kd.R_below (by (with_reducible repeat (first | apply Kd.R_alloc | apply Kd.R_drewN | apply Kd.R_drew)); exact HO_7.out) hb); have n2_ := Aside0.mk (Kd.R_below (by (with_reducible repeat (first | apply Kd.R_alloc | apply Kd.R_drewN | apply Kd.R_drew)); exact HO_11.out) hb); have n3_ := Aside0.mk (Kd.R_below (by (with_reducible repeat (first | apply Kd.R_alloc | apply Kd.R_drewN | apply Kd.R_drew)); exact HO_24.out) hb); have n4_ := Aside0.mk (below_step (by repeat (first | (with_reducible first | exact HB.out | apply below_alloc | apply pw_below_drewN | apply below_drew1) | exact HB.out)) hb); clear HO_5; clear HO_7; clear HO_11; clear HO_24; clear HB; have HO_5 := n0_; have HO_7 := n1_; have HO_11 := n2_; have HO_24 := n3_; have HB := n4_; clear n0_ n1_ n2_ n3_ n4_; (try clear hb); (try clear hb2); (try clear hk); (try clear hi))); go_upto_region 31 with (first | (go_at_call 71; (with_reducible refine (impl_IsSymmetric.calls k2 _ _ t401 t398 t442 t443 _ ?side1 ?side2 A78.out).mono ?_); (case side1 => repeat (first | exact (Kd.R_reads' HO_7.out).2.2 | (with_reducible refine Kd.C_alloc ?_ _) | (with_reducible refine Kd.C_drewN ?_ _) | (with_reducible refine Kd.C_drew ?_))); (case side2 => exact (Kd.R_reads' HO_7.out).2.1); rintro e w80 ⟨rfl, hb⟩; have n0_ := Aside0.mk (Kd.R_below (by (with_reducible repeat (first | apply Kd.R_alloc | apply Kd.R_drewN | apply Kd.R_drew)); exact HO_5.out) hb); have n1_ := Aside0.mk (Kd.R_below (by (with_reducible repeat (first | apply Kd.R_alloc | apply Kd.R_drewN | apply Kd.R_drew)); exact HO_7.out) hb); have n2_ := Aside0.mk (Kd.R_below (by (with_reducible repeat (first | apply Kd.R_alloc | apply Kd.R_drewN | apply Kd.R_drew)); exact HO_11.out) hb); have n3_ := Aside0.mk (Kd.R_below (by (with_reducible repeat (first | apply Kd.R_alloc | apply Kd.R_drewN | apply Kd.R_drew)); exact HO_24.out) hb); have n4_ := Aside0.mk (below_step (by repeat (first | (with_reducible first | exact HB.out | apply below_alloc | apply pw_below_drewN | apply below_drew1) | exact HB.out)) hb); clear HO_5; clear HO_7; clear HO_11; clear HO_24; clear HB; have HO_5 := n0_; have HO_7 := n1_; have HO_11 := n2_; have HO_24 := n3_; have HB := n4_; clear n0_ n1_ n2_ n3_ n4_; (try clear hb); (try clear hb2); (try clear hk); (try clear hi))))
                (try simp only [Act.put, List.setIfInBounds_toArray, List.set_cons_zero, List.set_cons_succ])
                go_cut [235] (fun v235 wc => ∃ (kq : Nat) (x235_78 : Bool), v235 = .bool x235_78 ∧ Aside0 (laws_FnAddedBackwards.j2 kq l1 t397 t398 t401 (t397.length : Int) t433 x235_78 = some r) ∧ Aside0 (kq ≤ k2) ∧ Aside0 (Kd.R (Kd.int .i64) 3 wc w.heap.size (fun k_ => some k_ ≠ ((.slice Ao65 t401.length co65) : Value).ownBlock ∧ some k_ ≠ (v434 : Value).ownBlock) (.slice Ao16 t397.length co16) t397) ∧ Aside0 (Kd.R (Kd.int .i64) 3 wc w.heap.size (fun k_ => some k_ ≠ ((.slice Ao16 t397.length co16) : Value).ownBlock ∧ some k_ ≠ (v434 : Value).ownBlock) (.slice Ao65 t401.length co65) t401) ∧ Aside0 (Kd.R (Kd.int .i64) 3 wc w.heap.size (fun k_ => some k_ ≠ ((.slice Ao16 t397.length co16) : Value).ownBlock ∧ some k_ ≠ ((.slice Ao65 t401.length co65) : Value).ownBlock) v434 t433) ∧ Aside0 (Below w.heap.size w wc))
                case first =>
                 have H := HC79.out
                 clear HC79
                 by_cases c81 : t443 = true
                 ·subst c81
                  have H1 : (if t417 = true then (laws_FnAddedBackwards.j2 k2 l1 t397 t398 t401 (t397.length : Int) t433 (!t442)) else (laws_FnAddedBackwards.j2 k2 l1 t397 t398 t401 (t397.length : Int) t433 false)) = some r := by rw [if_pos rfl] at H; exact H
                  clear H
                  have H := H1
                  clear H1
                  by_cases c82 : t417 = true
                  ·subst c82
                   have H1 : (laws_FnAddedBackwards.j2 k2 l1 t397 t398 t401 (t397.length : Int) t433 (!t442)) = some r := by rw [if_pos rfl] at H; exact H
                   clear H
                   have H := H1
                   clear H1
                   as_aux_lemma =>
                    have H' := Aside0.mk H
                    clear H
                    go_wp2
                    repeat (go_quiet (fail); try go_wp2)
                    go_meet
                    case rel => exact ⟨_, (!t442), (by first | rfl | (simp; done) | (simp [*]; done)), H', ⟨by have := HJ13.out; have := HK2.out; first | omega | exact Nat.le_refl _⟩, ⟨by (with_reducible repeat (first | apply Kd.R_alloc | apply Kd.R_drewN | apply Kd.R_drew)); exact Kd.R_mono HO_5.out (fun _ hk => ⟨hk.1, hk.2.2⟩)⟩, ⟨by (with_reducible repeat (first | apply Kd.R_alloc | apply Kd.R_drewN | apply Kd.R_drew)); exact Kd.R_mono HO_7.out (fun _ hk => ⟨hk.1, hk.2.2⟩)⟩, ⟨by (with_reducible repeat (first | apply Kd.R_alloc | apply Kd.R_drewN | apply Kd.R_drew)); exact Kd.R_mono HO_24.out (fun _ hk => ⟨hk.1, hk.2.1⟩)⟩, ⟨by repeat (first | (with_reducible first | exact HB.out | apply below_alloc | apply pw_below_drewN | apply below_drew1) | exact HB.out)⟩⟩
                  ·replace c82 := Bool.eq_false_iff.mpr c82
                   subst c82
                   have H1 : (laws_FnAddedBackwards.j2 k2 l1 t397 t398 t401 (t397.length : Int) t433 false) = some r := by rw [if_neg (show ¬ (false = true) by decide)] at H; exact H
                   clear H
                   have H := H1
                   clear H1
                   as_aux_lemma =>
                    have H' := Aside0.mk H
                    clear H
                    go_wp2
                    repeat (go_quiet (fail); try go_wp2)
                    go_meet
                    case rel => exact ⟨_, (false), (by first | rfl | (simp; done) | (simp [*]; done)), H', ⟨by have := HJ13.out; have := HK2.out; first | omega | exact Nat.le_refl _⟩, ⟨by (with_reducible repeat (first | apply Kd.R_alloc | apply Kd.R_drewN | apply Kd.R_drew)); exact Kd.R_mono HO_5.out (fun _ hk => ⟨hk.1, hk.2.2⟩)⟩, ⟨by (with_reducible repeat (first | apply Kd.R_alloc | apply Kd.R_drewN | apply Kd.R_drew)); exact Kd.R_mono HO_7.out (fun _ hk => ⟨hk.1, hk.2.2⟩)⟩, ⟨by (with_reducible repeat (first | apply Kd.R_alloc | apply Kd.R_drewN | apply Kd.R_drew)); exact Kd.R_mono HO_24.out (fun _ hk => ⟨hk.1, hk.2.1⟩)⟩, ⟨by repeat (first | (with_reducible first | exact HB.out | apply below_alloc | apply pw_below_drewN | apply below_drew1) | exact HB.out)⟩⟩
                 ·replace c81 := Bool.eq_false_iff.mpr c81
                  subst c81
                  have H1 : (none) = some r := by rw [if_neg (show ¬ (false = true) by decide)] at H; exact H
                  clear H
                  have H := H1
                  clear H1
                  exact absurd H (by simp)
                case rest =>
                 clear HC79
                 try clear c1
                 try clear c2
                 try clear p2
                 try clear c3
                 try clear c4
                 try clear p4
                 try clear q4
                 try clear hx4
                 try clear c5
                 try clear c6
                 try clear p6
                 try clear c7
                 try clear c8
                 try clear c25
                 try clear c25b0
                 try clear c25b1
                 try clear c25b2
                 try clear c27
                 try clear c28
                 try clear c28b0
                 try clear c28b1
                 try clear c28b2
                 try clear c30
                 try clear c31
                 try clear c31b0
                 try clear c31b1
                 try clear c31b2
                 try clear c32
                 try clear c32b0
                 try clear c32b1
                 try clear c32b2
                 try clear c33
                 try clear c33b0
                 try clear c33b1
                 try clear c33b2
                 try clear c35
                 try clear c36
                 try clear c36b0
                 try clear c36b1
                 try clear c36b2
                 try clear c37
                 try clear c37b0
                 try clear c37b1
                 try clear c37b2
                 try clear c38
                 try clear p43
                 try clear q43
                 try clear hx43
                 try clear p44
                 try clear q44
                 try clear hx44
                 try clear c51
                 try clear c53
                 try clear c54
                 try clear c54b0
                 try clear c54b1
                 try clear c54b2
                 try clear c56
                 try clear c56b0
                 try clear c56b1
                 try clear c56b2
                 try clear c58
                 try clear c60
                 try clear c60b0
                 try clear c61
                 try clear c61b0
                 try clear c62
                 try clear c62b0
                 try clear c62b1
                 try clear p64
                 try clear c66
                 try clear c66b0
                 try clear c67
                 try clear c67b0
                 try clear c68
                 try clear c68b0
                 try clear c69
                 try clear c69b0
                 try clear c71
                 try clear c71b0
                 try clear c72
                 try clear c72b0
                 try clear c74
                 try clear c74b0
                 try clear c75
                 try clear c75b0
                 try clear c76
                 try clear c76b0
                 try clear c76b1
                 try clear c81
                 try clear c82
                 try clear hx436_0
                 try clear hx437_0
                 try clear hx438_0
                 try clear hx439_0
                 try clear hx440_0
                 try clear hx441_0
                 try clear p2
                 try clear p4
                 try clear p43
                 try clear p436
                 try clear p437
                 try clear p438
                 try clear p439
                 try clear p440
                 try clear p441
                 try clear p6
                 try clear p64
                 try clear q4
                 try clear q43
                 try clear q436
                 try clear q437
                 try clear q438
                 try clear q439
                 try clear q440
                 try clear q441
                 obtain ⟨kq, x235_78, rfl, HA, HJ78, HO_5, HO_7, HO_24, HB⟩ := hcut
                 cases kq with
                 | zero => exact absurd HA.out (by simp [laws_FnAddedBackwards.j2])
                 | succ kj78 =>
                  have H := HA.out
                  clear HA
                  simp only [laws_FnAddedBackwards.j2] at H
                  by_cases c83 : x235_78 = true
                  ·subst c83
                   have H1 : (none) = some r := by rw [if_pos rfl] at H; exact H
                   clear H
                   have H := H1
                   clear H1
                   exact absurd H (by simp)
                  ·replace c83 := Bool.eq_false_iff.mpr c83
                   subst c83
                   have H1 : (if 0 ≤ (wrap64 ((t397.length : Int) - 1)) then (if (wrap64 ((t397.length : Int) - 1)) < (t397.length : Int) then (if (rd t397 (wrap64 ((t397.length : Int) - 1))) > 0 then ((impl_AddReversed.f kj78 t433 t398).bind fun bt445 => (if bt445.2 = true then ((laws_qSame.f kj78 bt445.1 t401).bind fun t449 => (if t449 = true then (laws_FnAddedBackwards.j3 kj78 l1) else (none))) else (none))) else (laws_FnAddedBackwards.j3 kj78 l1)) else (none)) else (none)) = some r := by rw [if_neg (show ¬ (false = true) by decide)] at H; exact H
                   clear H
                   have H := H1
                   clear H1
                   obtain ⟨ji84, hji84⟩ : ∃ j_ : Int, (wrap64 ((t397.length : Int) - 1)) = j_ := ⟨_, rfl⟩
                   replace H : (if 0 ≤ (ji84) then (if (ji84) < (t397.length : Int) then (if (rd t397 (ji84)) > 0 then ((impl_AddReversed.f kj78 t433 t398).bind fun bt445 => (if bt445.2 = true then ((laws_qSame.f kj78 bt445.1 t401).bind fun t449 => (if t449 = true then (laws_FnAddedBackwards.j3 kj78 l1) else (none))) else (none))) else (laws_FnAddedBackwards.j3 kj78 l1)) else (none)) else (none)) = some r := by first | (rw [hji84] at H; exact H) | (simp only [hji84] at H ⊢; exact H)
                   have hji84w : (IntKind.i64.wrap ((t397.length : Int) - 1)) = ji84 := (i64_w _).trans hji84
                   (try clear hji59w)
                   (try clear hji59)
                   by_cases c85 : 0 ≤ (ji84)
                   ·rw [if_pos c85] at H
                    have c85b0 : decide (0 ≤ (ji84)) = true := decide_eq_true c85
                    clear c85
                    by_cases c86 : (ji84) < (t397.length : Int)
                    ·rw [if_pos c86] at H
                     have c86b0 : decide ((ji84) < (t397.length : Int)) = true := decide_eq_true c86
                     clear c86
                     by_cases c87 : (rd t397 (ji84)) > 0
                     ·rw [if_pos c87] at H
                      have c87b0 : decide (0 < (rd t397 (ji84))) = true := decide_eq_true c87
                      clear c87
                      replace H := Option.bind_eq_some_iff.mp H
                      obtain ⟨⟨t445, t446⟩, A880, H⟩ := H
                      replace H : (if t446 = true then ((laws_qSame.f kj78 t445 t401).bind fun t449 => (if t449 = true then (laws_FnAddedBackwards.j3 kj78 l1) else (none))) else (none)) = some r := H
                      have A88 := Aside0.mk A880
                      clear A880
                      by_cases c89 : t446 = true
                      ·subst c89
                       have H1 : ((laws_qSame.f kj78 t445 t401).bind fun t449 => (if t449 = true then (laws_FnAddedBackwards.j3 kj78 l1) else (none))) = some r := by rw [if_pos rfl] at H; exact H
                       clear H
                       have H := H1
                       clear H1
                       replace H := Option.bind_eq_some_iff.mp H
                       obtain ⟨t449, A900, H⟩ := H
                       replace H : (if t449 = true then (laws_FnAddedBackwards.j3 kj78 l1) else (none)) = some r := H
                       have A90 := Aside0.mk A900
                       clear A900
                       by_cases c91 : t449 = true
                       ·subst c91
                        have H1 : (laws_FnAddedBackwards.j3 kj78 l1) = some r := by rw [if_pos rfl] at H; exact H
                        clear H
                        have H := H1
                        clear H1
                        as_aux_lemma =>
                         have H' := Aside0.mk H
                         clear H
                         have p444 : 0 ≤ ((ji84) : Int) := of_decide_eq_true (by first | (with_reducible assumption) | assumption)
                         have q444 : (ji84) < (t397.length : Int) := of_decide_eq_true (by first | (with_reducible assumption) | assumption)
                         obtain ⟨ad444, e444, hx444_0⟩ := Kd.at_int (Kd.R_reads' HO_5.out).2.2 (ji84) p444 q444
                         cases e444
                         replace p444 := eq_true p444
                         replace q444 := eq_true q444
                         obtain ⟨Ao92, co92, eo92⟩ := Kd.R_slice HO_24.out
                         subst eo92
                         go_wp2_with (first | (go_at_call 61; (with_reducible refine (impl_AddReversed.calls kj78 _ _ t433 t398 t445 true _ ?side1 ?side2 A88.out).mono ?_); (case side1 => repeat (first | exact (Kd.R_reads' HO_24.out).2.2 | (with_reducible refine Kd.C_alloc ?_ _) | (with_reducible refine Kd.C_drewN ?_ _) | (with_reducible refine Kd.C_drew ?_))); (case side2 => exact (Kd.R_reads' HO_24.out).2.1); rintro e w93 ⟨v447, rfl, ho0, hb⟩; have n0_ := Aside0.mk (Kd.R_elder' (by (with_reducible repeat (first | apply Kd.R_alloc | apply Kd.R_drewN | apply Kd.R_drew)); exact HO_5.out) (Kd.R_base ho0) hb); have n1_ := Aside0.mk (Kd.R_elder' (by (with_reducible repeat (first | apply Kd.R_alloc | apply Kd.R_drewN | apply Kd.R_drew)); exact HO_7.out) (Kd.R_base ho0) hb); have n2_ := Aside0.mk (Kd.R_elder' (by (with_reducible repeat (first | apply Kd.R_alloc | apply Kd.R_drewN | apply Kd.R_drew)); exact HO_24.out) (Kd.R_base ho0) hb); have n3_ := Aside0.mk (Kd.R_lower (Kd.R_new' (Kd.R_new' (Kd.R_new' ho0 (Kd.R_lt (by (with_reducible repeat (first | apply Kd.R_alloc | apply Kd.R_drewN | apply Kd.R_drew)); exact HO_5.out))) (Kd.R_lt (by (with_reducible repeat (first | apply Kd.R_alloc | apply Kd.R_drewN | apply Kd.R_drew)); exact HO_7.out))) (Kd.R_lt (by (with_reducible repeat (first | apply Kd.R_alloc | apply Kd.R_drewN | apply Kd.R_drew)); exact HO_24.out))) (below_size (by repeat (first | (with_reducible first | exact HB.out | apply below_alloc | apply pw_below_drewN | apply below_drew1) | exact HB.out)))); have n4_ := Aside0.mk (below_step (by repeat (first | (with_reducible first | exact HB.out | apply below_alloc | apply pw_below_drewN | apply below_drew1) | exact HB.out)) hb); clear HO_5; clear HO_7; clear HO_24; clear HB; have HO_5 := n0_; have HO_7 := n1_; have HO_24 := n2_; have HO448 := n3_; have HB := n4_; clear n0_ n1_ n2_ n3_ n4_; (try clear hb); (try clear hb2); (try clear hk); (try clear hi); (try clear ho0); obtain ⟨Ao94, co94, eo94⟩ := Kd.R_slice HO448.out; subst eo94) | (go_at_call 17; (with_reducible refine (laws_qSame.calls kj78 _ _ t445 _ _ t401 true _ ?side1 ?side2 ?side3 ?side4 A90.out).mono ?_); (case side1 => repeat (first | exact (Kd.R_reads' HO448.out).2.2 | (with_reducible refine Kd.C_alloc ?_ _) | (with_reducible refine Kd.C_drewN ?_ _) | (with_reducible refine Kd.C_drew ?_))); (case side2 => exact (Kd.R_reads' HO448.out).2.1); (case side3 => repeat (first | exact (Kd.R_reads' HO_7.out).2.2 | (with_reducible refine Kd.C_alloc ?_ _) | (with_reducible refine Kd.C_drewN ?_ _) | (with_reducible refine Kd.C_drew ?_))); (case side4 => exact (Kd.R_reads' HO_7.out).2.1); rintro e w' ⟨rfl, ⟨nd, rfl⟩⟩; (try first | exact ⟨rfl, _, World.drewN_drewN _ _ _⟩ | exact ⟨rfl, _, Eq.trans (World.drewN_drewN _ _ _) (congrArg (World.drewN _) (Nat.add_assoc _ _ _))⟩)))
                         repeat (go_quiet (first | (go_at_call 61; (with_reducible refine (impl_AddReversed.calls kj78 _ _ t433 t398 t445 true _ ?side1 ?side2 A88.out).mono ?_); (case side1 => repeat (first | exact (Kd.R_reads' HO_24.out).2.2 | (with_reducible refine Kd.C_alloc ?_ _) | (with_reducible refine Kd.C_drewN ?_ _) | (with_reducible refine Kd.C_drew ?_))); (case side2 => exact (Kd.R_reads' HO_24.out).2.1); rintro e w93 ⟨v447, rfl, ho0, hb⟩; have n0_ := Aside0.mk (Kd.R_elder' (by (with_reducible repeat (first | apply Kd.R_alloc | apply Kd.R_drewN | apply Kd.R_drew)); exact HO_5.out) (Kd.R_base ho0) hb); have n1_ := Aside0.mk (Kd.R_elder' (by (with_reducible repeat (first | apply Kd.R_alloc | apply Kd.R_drewN | apply Kd.R_drew)); exact HO_7.out) (Kd.R_base ho0) hb); have n2_ := Aside0.mk (Kd.R_elder' (by (with_reducible repeat (first | apply Kd.R_alloc | apply Kd.R_drewN | apply Kd.R_drew)); exact HO_24.out) (Kd.R_base ho0) hb); have n3_ := Aside0.mk (Kd.R_lower (Kd.R_new' (Kd.R_new' (Kd.R_new' ho0 (Kd.R_lt (by (with_reducible repeat (first | apply Kd.R_alloc | apply Kd.R_drewN | apply Kd.R_drew)); exact HO_5.out))) (Kd.R_lt (by (with_reducible repeat (first | apply Kd.R_alloc | apply Kd.R_drewN | apply Kd.R_drew)); exact HO_7.out))) (Kd.R_lt (by (with_reducible repeat (first | apply Kd.R_alloc | apply Kd.R_drewN | apply Kd.R_drew)); exact HO_24.out))) (below_size (by repeat (first | (with_reducible first | exact HB.out | apply below_alloc | apply pw_below_drewN | apply below_drew1) | exact HB.out)))); have n4_ := Aside0.mk (below_step (by repeat (first | (with_reducible first | exact HB.out | apply below_alloc | apply pw_below_drewN | apply below_drew1) | exact HB.out)) hb); clear HO_5; clear HO_7; clear HO_24; clear HB; have HO_5 := n0_; have HO_7 := n1_; have HO_24 := n2_; have HO448 := n3_; have HB := n4_; clear n0_ n1_ n2_ n3_ n4_; (try clear hb); (try clear hb2); (try clear hk); (try clear hi); (try clear ho0); obtain ⟨Ao94, co94, eo94⟩ := Kd.R_slice HO448.out; subst eo94) | (go_at_call 17; (with_reducible refine (laws_qSame.calls kj78 _ _ t445 _ _ t401 true _ ?side1 ?side2 ?side3 ?side4 A90.out).mono ?_); (case side1 => repeat (first | exact (Kd.R_reads' HO448.out).2.2 | (with_reducible refine Kd.C_alloc ?_ _) | (with_reducible refine Kd.C_drewN ?_ _) | (with_reducible refine Kd.C_drew ?_))); (case side2 => exact (Kd.R_reads' HO448.out).2.1); (case side3 => repeat (first | exact (Kd.R_reads' HO_7.out).2.2 | (with_reducible refine Kd.C_alloc ?_ _) | (with_reducible refine Kd.C_drewN ?_ _) | (with_reducible refine Kd.C_drew ?_))); (case side4 => exact (Kd.R_reads' HO_7.out).2.1); rintro e w' ⟨rfl, ⟨nd, rfl⟩⟩; (try first | exact ⟨rfl, _, World.drewN_drewN _ _ _⟩ | exact ⟨rfl, _, Eq.trans (World.drewN_drewN _ _ _) (congrArg (World.drewN _) (Nat.add_assoc _ _ _))⟩))); try go_wp2_with (first | (go_at_call 61; (with_reducible refine (impl_AddReversed.calls kj78 _ _ t433 t398 t445 true _ ?side1 ?side2 A88.out).mono ?_); (case side1 => repeat (first | exact (Kd.R_reads' HO_24.out).2.2 | (with_reducible refine Kd.C_alloc ?_ _) | (with_reducible refine Kd.C_drewN ?_ _) | (with_reducible refine Kd.C_drew ?_))); (case side2 => exact (Kd.R_reads' HO_24.out).2.1); rintro e w93 ⟨v447, rfl, ho0, hb⟩; have n0_ := Aside0.mk (Kd.R_elder' (by (with_reducible repeat (first | apply Kd.R_alloc | apply Kd.R_drewN | apply Kd.R_drew)); exact HO_5.out) (Kd.R_base ho0) hb); have n1_ := Aside0.mk (Kd.R_elder' (by (with_reducible repeat (first | apply Kd.R_alloc | apply Kd.R_drewN | apply Kd.R_drew)); exact HO_7.out) (Kd.R_base ho0) hb); have n2_ := Aside0.mk (Kd.R_elder' (by (with_reducible repeat (first | apply Kd.R_alloc | apply Kd.R_drewN | apply Kd.R_drew)); exact HO_24.out) (Kd.R_base ho0) hb); have n3_ := Aside0.mk (Kd.R_lower (Kd.R_new' (Kd.R_new' (Kd.R_new' ho0 (Kd.R_lt (by (with_reducible repeat (first | apply Kd.R_alloc | apply Kd.R_drewN | apply Kd.R_drew)); exact HO_5.out))) (Kd.R_lt (by (with_reducible repeat (first | apply Kd.R_alloc | apply Kd.R_drewN | apply Kd.R_drew)); exact HO_7.out))) (Kd.R_lt (by (with_reducible repeat (first | apply Kd.R_alloc | apply Kd.R_drewN | apply Kd.R_drew)); exact HO_24.out))) (below_size (by repeat (first | (with_reducible first | exact HB.out | apply below_alloc | apply pw_below_drewN | apply below_drew1) | exact HB.out)))); have n4_ := Aside0.mk (below_step (by repeat (first | (with_reducible first | exact HB.out | apply below_alloc | apply pw_below_drewN | apply below_drew1) | exact HB.out)) hb); clear HO_5; clear HO_7; clear HO_24; clear HB; have HO_5 := n0_; have HO_7 := n1_; have HO_24 := n2_; have HO448 := n3_; have HB := n4_; clear n0_ n1_ n2_ n3_ n4_; (try clear hb); (try clear hb2); (try clear hk); (try clear hi); (try clear ho0); obtain ⟨Ao94, co94, eo94⟩ := Kd.R_slice HO448.out; subst eo94) | (go_at_call 17; (with_reducible refine (laws_qSame.calls kj78 _ _ t445 _ _ t401 true _ ?side1 ?side2 ?side3 ?side4 A90.out).mono ?_); (case side1 => repeat (first | exact (Kd.R_reads' HO448.out).2.2 | (with_reducible refine Kd.C_alloc ?_ _) | (with_reducible refine Kd.C_drewN ?_ _) | (with_reducible refine Kd.C_drew ?_))); (case side2 => exact (Kd.R_reads' HO448.out).2.1); (case side3 => repeat (first | exact (Kd.R_reads' HO_7.out).2.2 | (with_reducible refine Kd.C_alloc ?_ _) | (with_reducible refine Kd.C_drewN ?_ _) | (with_reducible refine Kd.C_drew ?_))); (case side4 => exact (Kd.R_reads' HO_7.out).2.1); rintro e w' ⟨rfl, ⟨nd, rfl⟩⟩; (try first | exact ⟨rfl, _, World.drewN_drewN _ _ _⟩ | exact ⟨rfl, _, Eq.trans (World.drewN_drewN _ _ _) (congrArg (World.drewN _) (Nat.add_assoc _ _ _))⟩))))
                         go_meet
                         case rel => exact ⟨_, H', ⟨by have := HJ13.out; have := HK2.out; have := HJ78.out; first | omega | exact Nat.le_refl _⟩, ⟨by repeat (first | (with_reducible first | exact HB.out | apply below_alloc | apply pw_below_drewN | apply below_drew1) | exact HB.out)⟩⟩
                       ·replace c91 := Bool.eq_false_iff.mpr c91
                        subst c91
                        have H1 : (none) = some r := by rw [if_neg (show ¬ (false = true) by decide)] at H; exact H
                        clear H
                        have H := H1
                        clear H1
                        exact absurd H (by simp)
                      ·replace c89 := Bool.eq_false_iff.mpr c89
                       subst c89
                       have H1 : (none) = some r := by rw [if_neg (show ¬ (false = true) by decide)] at H; exact H
                       clear H
                       have H := H1
                       clear H1
                       exact absurd H (by simp)
                     ·rw [if_neg c87] at H
                      have c87b0 : decide (0 < (rd t397 (ji84))) = false := decide_eq_false c87
                      clear c87
                      as_aux_lemma =>
                       have H' := Aside0.mk H
                       clear H
                       have p444 : 0 ≤ ((ji84) : Int) := of_decide_eq_true (by first | (with_reducible assumption) | assumption)
                       have q444 : (ji84) < (t397.length : Int) := of_decide_eq_true (by first | (with_reducible assumption) | assumption)
                       obtain ⟨ad444, e444, hx444_0⟩ := Kd.at_int (Kd.R_reads' HO_5.out).2.2 (ji84) p444 q444
                       cases e444
                       replace p444 := eq_true p444
                       replace q444 := eq_true q444
                       go_wp2
                       repeat (go_quiet (fail); try go_wp2)
                       go_meet
                       case rel => exact ⟨_, H', ⟨by have := HJ13.out; have := HK2.out; have := HJ78.out; first | omega | exact Nat.le_refl _⟩, ⟨by repeat (first | (with_reducible first | exact HB.out | apply below_alloc | apply pw_below_drewN | apply below_drew1) | exact HB.out)⟩⟩
                    ·rw [if_neg c86] at H
                     exact absurd H (by simp)
                   ·rw [if_neg c85] at H
                    exact absurd H (by simp)
            ·rw [if_neg c62] at H
             exact absurd H (by simp)
           ·rw [if_neg c61] at H
            exact absurd H (by simp)
          ·rw [if_neg c60] at H
           exact absurd H (by simp)
         ·replace c58 := Bool.eq_false_iff.mpr c58
          subst c58
          have H1 : (laws_FnAddedBackwards.j3 kj13 l1) = some r := by rw [if_neg (show ¬ (false = true) by decide)] at H; exact H
          clear H
          have H := H1
          clear H1
          as_aux_lemma =>
           have H' := Aside0.mk H
           clear H
           obtain ⟨Ao95, co95, eo95⟩ := Kd.R_slice HO_11.out
           subst eo95
           go_wp2_with (first | (go_at_call 69; (with_reducible refine (laws_qSum.calls kj13 _ _ t409 t432 _ ?side1 ?side2 A55.out).mono ?_); (case side1 => repeat (first | exact (Kd.R_reads' HO_11.out).2.2 | (with_reducible refine Kd.C_alloc ?_ _) | (with_reducible refine Kd.C_drewN ?_ _) | (with_reducible refine Kd.C_drew ?_))); (case side2 => exact (Kd.R_reads' HO_11.out).2.1); rintro e w' ⟨rfl, ⟨nd, rfl⟩⟩; (try first | exact ⟨rfl, _, World.drewN_drewN _ _ _⟩ | exact ⟨rfl, _, Eq.trans (World.drewN_drewN _ _ _) (congrArg (World.drewN _) (Nat.add_assoc _ _ _))⟩)) | (go_at_call 70; (with_reducible refine (laws_qBack.calls kj13 _ _ t397 t433 _ ?side1 ?side2 A57.out).mono ?_); (case side1 => repeat (first | exact (Kd.R_reads' HO_5.out).2.2 | (with_reducible refine Kd.C_alloc ?_ _) | (with_reducible refine Kd.C_drewN ?_ _) | (with_reducible refine Kd.C_drew ?_))); (case side2 => exact (Kd.R_reads' HO_5.out).2.1); rintro e w96 ⟨v434, rfl, ho0, hb⟩; have n0_ := Aside0.mk (Kd.R_elder' (by (with_reducible repeat (first | apply Kd.R_alloc | apply Kd.R_drewN | apply Kd.R_drew)); exact HO_5.out) (Kd.R_base ho0) hb); have n1_ := Aside0.mk (Kd.R_elder' (by (with_reducible repeat (first | apply Kd.R_alloc | apply Kd.R_drewN | apply Kd.R_drew)); exact HO_7.out) (Kd.R_base ho0) hb); have n2_ := Aside0.mk (Kd.R_elder' (by (with_reducible repeat (first | apply Kd.R_alloc | apply Kd.R_drewN | apply Kd.R_drew)); exact HO_11.out) (Kd.R_base ho0) hb); have n3_ := Aside0.mk (Kd.R_lower (Kd.R_new' (Kd.R_new' (Kd.R_new' ho0 (Kd.R_lt (by (with_reducible repeat (first | apply Kd.R_alloc | apply Kd.R_drewN | apply Kd.R_drew)); exact HO_5.out))) (Kd.R_lt (by (with_reducible repeat (first | apply Kd.R_alloc | apply Kd.R_drewN | apply Kd.R_drew)); exact HO_7.out))) (Kd.R_lt (by (with_reducible repeat (first | apply Kd.R_alloc | apply Kd.R_drewN | apply Kd.R_drew)); exact HO_11.out))) (below_size (by repeat (first | (with_reducible first | exact HB.out | apply below_alloc | apply pw_below_drewN | apply below_drew1) | exact HB.out)))); have n4_ := Aside0.mk (below_step (by repeat (first | (with_reducible first | exact HB.out | apply below_alloc | apply pw_below_drewN | apply below_drew1) | exact HB.out)) hb); clear HO_5; clear HO_7; clear HO_11; clear HB; have HO_5 := n0_; have HO_7 := n1_; have HO_11 := n2_; have HO435 := n3_; have HB := n4_; clear n0_ n1_ n2_ n3_ n4_; (try clear hb); (try clear hb2); (try clear hk); (try clear hi); (try clear ho0)))
           repeat (go_quiet (first | (go_at_call 69; (with_reducible refine (laws_qSum.calls kj13 _ _ t409 t432 _ ?side1 ?side2 A55.out).mono ?_); (case side1 => repeat (first | exact (Kd.R_reads' HO_11.out).2.2 | (with_reducible refine Kd.C_alloc ?_ _) | (with_reducible refine Kd.C_drewN ?_ _) | (with_reducible refine Kd.C_drew ?_))); (case side2 => exact (Kd.R_reads' HO_11.out).2.1); rintro e w' ⟨rfl, ⟨nd, rfl⟩⟩; (try first | exact ⟨rfl, _, World.drewN_drewN _ _ _⟩ | exact ⟨rfl, _, Eq.trans (World.drewN_drewN _ _ _) (congrArg (World.drewN _) (Nat.add_assoc _ _ _))⟩)) | (go_at_call 70; (with_reducible refine (laws_qBack.calls kj13 _ _ t397 t433 _ ?side1 ?side2 A57.out).mono ?_); (case side1 => repeat (first | exact (Kd.R_reads' HO_5.out).2.2 | (with_reducible refine Kd.C_alloc ?_ _) | (with_reducible refine Kd.C_drewN ?_ _) | (with_reducible refine Kd.C_drew ?_))); (case side2 => exact (Kd.R_reads' HO_5.out).2.1); rintro e w96 ⟨v434, rfl, ho0, hb⟩; have n0_ := Aside0.mk (Kd.R_elder' (by (with_reducible repeat (first | apply Kd.R_alloc | apply Kd.R_drewN | apply Kd.R_drew)); exact HO_5.out) (Kd.R_base ho0) hb); have n1_ := Aside0.mk (Kd.R_elder' (by (with_reducible repeat (first | apply Kd.R_alloc | apply Kd.R_drewN | apply Kd.R_drew)); exact HO_7.out) (Kd.R_base ho0) hb); have n2_ := Aside0.mk (Kd.R_elder' (by (with_reducible repeat (first | apply Kd.R_alloc | apply Kd.R_drewN | apply Kd.R_drew)); exact HO_11.out) (Kd.R_base ho0) hb); have n3_ := Aside0.mk (Kd.R_lower (Kd.R_new' (Kd.R_new' (Kd.R_new' ho0 (Kd.R_lt (by (with_reducible repeat (first | apply Kd.R_alloc | apply Kd.R_drewN | apply Kd.R_drew)); exact HO_5.out))) (Kd.R_lt (by (with_reducible repeat (first | apply Kd.R_alloc | apply Kd.R_drewN | apply Kd.R_drew)); exact HO_7.out))) (Kd.R_lt (by (with_reducible repeat (first | apply Kd.R_alloc | apply Kd.R_drewN | apply Kd.R_drew)); exact HO_11.out))) (below_size (by repeat (first | (with_reducible first | exact HB.out | apply below_alloc | apply pw_below_drewN | apply below_drew1) | exact HB.out)))); have n4_ := Aside0.mk (below_step (by repeat (first | (with_reducible first | exact HB.out | apply below_alloc | apply pw_below_drewN | apply below_drew1) | exact HB.out)) hb); clear HO_5; clear HO_7; clear HO_11; clear HB; have HO_5 := n0_; have HO_7 := n1_; have HO_11 := n2_; have HO435 := n3_; have HB := n4_; clear n0_ n1_ n2_ n3_ n4_; (try clear hb); (try clear hb2); (try clear hk); (try clear hi); (try clear ho0))); try go_wp2_with (first | (go_at_call 69; (with_reducible refine (laws_qSum.calls kj13 _ _ t409 t432 _ ?side1 ?side2 A55.out).mono ?_); (case side1 => repeat (first | exact (Kd.R_reads' HO_11.out).2.2 | (with_reducible refine Kd.C_alloc ?_ _) | (with_reducible refine Kd.C_drewN ?_ _) | (with_reducible refine Kd.C_drew ?_))); (case side2 => exact (Kd.R_reads' HO_11.out).2.1); rintro e w' ⟨rfl, ⟨nd, rfl⟩⟩; (try first | exact ⟨rfl, _, World.drewN_drewN _ _ _⟩ | exact ⟨rfl, _, Eq.trans (World.drewN_drewN _ _ _) (congrArg (World.drewN _) (Nat.add_assoc _ _ _))⟩)) | (go_at_call 70; (with_reducible refine (laws_qBack.calls kj13 _ _ t397 t433 _ ?side1 ?side2 A57.out).mono ?_); (case side1 => repeat (first | exact (Kd.R_reads' HO_5.out).2.2 | (with_reducible refine Kd.C_alloc ?_ _) | (with_reducible refine Kd.C_drewN ?_ _) | (with_reducible refine Kd.C_drew ?_))); (case side2 => exact (Kd.R_reads' HO_5.out).2.1); rintro e w96 ⟨v434, rfl, ho0, hb⟩; have n0_ := Aside0.mk (Kd.R_elder' (by (with_reducible repeat (first | apply Kd.R_alloc | apply Kd.R_drewN | apply Kd.R_drew)); exact HO_5.out) (Kd.R_base ho0) hb); have n1_ := Aside0.mk (Kd.R_elder' (by (with_reducible repeat (first | apply Kd.R_alloc | apply Kd.R_drewN | apply Kd.R_drew)); exact HO_7.out) (Kd.R_base ho0) hb); have n2_ := Aside0.mk (Kd.R_elder' (by (with_reducible repeat (first | apply Kd.R_alloc | apply Kd.R_drewN | apply Kd.R_drew)); exact HO_11.out) (Kd.R_base ho0) hb); have n3_ := Aside0.mk (Kd.R_lower (Kd.R_new' (Kd.R_new' (Kd.R_new' ho0 (Kd.R_lt (by (with_reducible repeat (first | apply Kd.R_alloc | apply Kd.R_drewN | apply Kd.R_drew)); exact HO_5.out))) (Kd.R_lt (by (with_reducible repeat (first | apply Kd.R_alloc | apply Kd.R_drewN | apply Kd.R_drew)); exact HO_7.out))) (Kd.R_lt (by (with_reducible repeat (first | apply Kd.R_alloc | apply Kd.R_drewN | apply Kd.R_drew)); exact HO_11.out))) (below_size (by repeat (first | (with_reducible first | exact HB.out | apply below_alloc | apply pw_below_drewN | apply below_drew1) | exact HB.out)))); have n4_ := Aside0.mk (below_step (by repeat (first | (with_reducible first | exact HB.out | apply below_alloc | apply pw_below_drewN | apply below_drew1) | exact HB.out)) hb); clear HO_5; clear HO_7; clear HO_11; clear HB; have HO_5 := n0_; have HO_7 := n1_; have HO_11 := n2_; have HO435 := n3_; have HB := n4_; clear n0_ n1_ n2_ n3_ n4_; (try clear hb); (try clear hb2); (try clear hk); (try clear hi); (try clear ho0))))
           go_meet
           case rel => exact ⟨_, H', ⟨by have := HJ13.out; first | omega | exact Nat.le_refl _⟩, ⟨by repeat (first | (with_reducible first | exact HB.out | apply below_alloc | apply pw_below_drewN | apply below_drew1) | exact HB.out)⟩⟩
       ·rw [if_neg c54] at H
        exact absurd H (by simp)
      ·replace c53 := Bool.eq_false_iff.mpr c53
       subst c53
       have H1 : (laws_FnAddedBackwards.j3 kj13 l1) = some r := by rw [if_neg (show ¬ (false = true) by decide)] at H; exact H
       clear H
       have H := H1
       clear H1
       as_aux_lemma =>
        have H' := Aside0.mk H
        clear H
        go_wp2
        repeat (go_quiet (fail); try go_wp2)
        go_meet
        case rel => exact ⟨_, H', ⟨by have := HJ13.out; first | omega | exact Nat.le_refl _⟩, ⟨by repeat (first | (with_reducible first | exact HB.out | apply below_alloc | apply pw_below_drewN | apply below_drew1) | exact HB.out)⟩⟩
     case rest =>
      clear HC52
      try clear c1
      try clear c2
      try clear p2
      try clear c3
      try clear c4
      try clear p4
      try clear q4
      try clear hx4
      try clear c5
      try clear c6
      try clear p6
      try clear c7
      try clear c8
      try clear c9
      try clear c25
      try clear c25b0
      try clear c25b1
      try clear c25b2
      try clear c27
      try clear c28
      try clear c28b0
      try clear c28b1
      try clear c28b2
      try clear c30
      try clear c31
      try clear c31b0
      try clear c31b1
      try clear c31b2
      try clear c32
      try clear c32b0
      try clear c32b1
      try clear c32b2
      try clear c33
      try clear c33b0
      try clear c33b1
      try clear c33b2
      try clear c35
      try clear c36
      try clear c36b0
      try clear c36b1
      try clear c36b2
      try clear c37
      try clear c37b0
      try clear c37b1
      try clear c37b2
      try clear c38
      try clear p43
      try clear q43
      try clear hx43
      try clear p44
      try clear q44
      try clear hx44
      try clear c51
      try clear c53
      try clear c54
      try clear c54b0
      try clear c54b1
      try clear c54b2
      try clear c56
      try clear c56b0
      try clear c56b1
      try clear c56b2
      try clear c58
      try clear c60
      try clear c60b0
      try clear c61
      try clear c61b0
      try clear c62
      try clear c62b0
      try clear c62b1
      try clear p64
      try clear c66
      try clear c66b0
      try clear c67
      try clear c67b0
      try clear c68
      try clear c68b0
      try clear c69
      try clear c69b0
      try clear c71
      try clear c71b0
      try clear c72
      try clear c72b0
      try clear c74
      try clear c74b0
      try clear c75
      try clear c75b0
      try clear c76
      try clear c76b0
      try clear c76b1
      try clear c81
      try clear c82
      try clear c83
      try clear c85
      try clear c85b0
      try clear c86
      try clear c86b0
      try clear c87
      try clear c87b0
      try clear c89
      try clear c91
      try clear hx436_0
      try clear hx437_0
      try clear hx438_0
      try clear hx439_0
      try clear hx440_0
      try clear hx441_0
      try clear hx444_0
      try clear p2
      try clear p4
      try clear p43
      try clear p436
      try clear p437
      try clear p438
      try clear p439
      try clear p44
      try clear p440
      try clear p441
      try clear p444
      try clear p6
      try clear p64
      try clear q4
      try clear q43
      try clear q436
      try clear q437
      try clear q438
      try clear q439
      try clear q44
      try clear q440
      try clear q441
      try clear q444
      obtain ⟨kq, HA, HJ51, HB⟩ := hcut
      cases kq with
      | zero => exact absurd HA.out (by simp [laws_FnAddedBackwards.j3])
      | succ kj51 =>
       have H := HA.out
       clear HA
       simp only [laws_FnAddedBackwards.j3] at H
       replace H := Option.bind_eq_some_iff.mp H
       obtain ⟨⟨t450, t451⟩, A970, H⟩ := H
       replace H : ((impl_IsSymmetric.f kj51 t450 t451).bind fun bt454 => ((spec_IsSymmetric.f kj51 t450 t451).bind fun bt456 => (if (bt454.2 != bt456.2) = true then (none) else (if (bt454.1 != bt456.1) = true then (none) else (if bt454.2 = true then ((laws_qBack.f kj51 t450).bind fun t458 => ((laws_qSame.f kj51 t450 t458).bind fun t461 => (some (bt454.1 == t461)))) else (some true)))))) = some r := H
       have A97 := Aside0.mk A970
       clear A970
       replace H := Option.bind_eq_some_iff.mp H
       obtain ⟨⟨t454, t455⟩, A980, H⟩ := H
       replace H : ((spec_IsSymmetric.f kj51 t450 t451).bind fun bt456 => (if (t455 != bt456.2) = true then (none) else (if (t454 != bt456.1) = true then (none) else (if t455 = true then ((laws_qBack.f kj51 t450).bind fun t458 => ((laws_qSame.f kj51 t450 t458).bind fun t461 => (some (t454 == t461)))) else (some true))))) = some r := H
       have A98 := Aside0.mk A980
       clear A980
       replace H := Option.bind_eq_some_iff.mp H
       obtain ⟨⟨t456, t457⟩, A990, H⟩ := H
       replace H : (if (t455 != t457) = true then (none) else (if (t454 != t456) = true then (none) else (if t455 = true then ((laws_qBack.f kj51 t450).bind fun t458 => ((laws_qSame.f kj51 t450 t458).bind fun t461 => (some (t454 == t461)))) else (some true)))) = some r := H
       have A99 := Aside0.mk A990
       clear A990
       by_cases c100 : (t455 != t457) = true
       ·rw [if_pos c100] at H
        exact absurd H (by simp)
       ·rw [if_neg c100] at H
        have c100b0 : (t455 != t457) = false := by simpa using c100
        (try (have c100b1 : decide (t455 = t457) = true := by simpa using c100))
        (try (have c100b2 : (t455 == t457) = true := by simpa using c100))
        clear c100
        by_cases c101 : (t454 != t456) = true
        ·rw [if_pos c101] at H
         exact absurd H (by simp)
        ·rw [if_neg c101] at H
         have c101b0 : (t454 != t456) = false := by simpa using c101
         (try (have c101b1 : decide (t454 = t456) = true := by simpa using c101))
         (try (have c101b2 : (t454 == t456) = true := by simpa using c101))
         clear c101
         by_cases c102 : t455 = true
         ·subst c102
          have H1 : ((laws_qBack.f kj51 t450).bind fun t458 => ((laws_qSame.f kj51 t450 t458).bind fun t461 => (some (t454 == t461)))) = some r := by rw [if_pos rfl] at H; exact H
          clear H
          have H := H1
          clear H1
          replace H := Option.bind_eq_some_iff.mp H
          obtain ⟨t458, A1030, H⟩ := H
          replace H : ((laws_qSame.f kj51 t450 t458).bind fun t461 => (some (t454 == t461))) = some r := H
          have A103 := Aside0.mk A1030
          clear A1030
          replace H := Option.bind_eq_some_iff.mp H
          obtain ⟨t461, A1040, H⟩ := H
          replace H : (some (t454 == t461)) = some r := H
          have A104 := Aside0.mk A1040
          clear A1040
          as_aux_lemma =>
           obtain rfl := Option.some.inj H
           go_wp2_with (first | (go_at_call 72; (with_reducible refine (spec_DrawIsSymmetric.calls kj51 _ _ l1 t450 t451 _ ?side1 ?side2 A97.out).mono ?_); (case side1 => repeat (first | exact (Kd.C_below HR1.out HB.out) | (with_reducible refine Kd.C_alloc ?_ _) | (with_reducible refine Kd.C_drewN ?_ _) | (with_reducible refine Kd.C_drew ?_))); (case side2 => exact HC1.out); rintro e w105 ⟨v452, rfl, ho0, hb⟩; have n0_ := Aside0.mk (Kd.R_lower ho0 (below_size (by repeat (first | (with_reducible first | exact HB.out | apply below_alloc | apply pw_below_drewN | apply below_drew1) | exact HB.out)))); have n1_ := Aside0.mk (below_step (by repeat (first | (with_reducible first | exact HB.out | apply below_alloc | apply pw_below_drewN | apply below_drew1) | exact HB.out)) hb); clear HB; have HO453 := n0_; have HB := n1_; clear n0_ n1_; (try clear hb); (try clear hb2); (try clear hk); (try clear hi); (try clear ho0); obtain ⟨Ao106, co106, eo106⟩ := Kd.R_slice HO453.out; subst eo106) | (go_at_call 71; (with_reducible refine (impl_IsSymmetric.calls kj51 _ _ t450 t451 t454 true _ ?side1 ?side2 A98.out).mono ?_); (case side1 => repeat (first | exact (Kd.R_reads' HO453.out).2.2 | (with_reducible refine Kd.C_alloc ?_ _) | (with_reducible refine Kd.C_drewN ?_ _) | (with_reducible refine Kd.C_drew ?_))); (case side2 => exact (Kd.R_reads' HO453.out).2.1); rintro e w107 ⟨rfl, hb⟩; have n0_ := Aside0.mk (Kd.R_below (by (with_reducible repeat (first | apply Kd.R_alloc | apply Kd.R_drewN | apply Kd.R_drew)); exact HO453.out) hb); have n1_ := Aside0.mk (below_step (by repeat (first | (with_reducible first | exact HB.out | apply below_alloc | apply pw_below_drewN | apply below_drew1) | exact HB.out)) hb); clear HO453; clear HB; have HO453 := n0_; have HB := n1_; clear n0_ n1_; (try clear hb); (try clear hb2); (try clear hk); (try clear hi)) | (go_at_call 73; (with_reducible refine (spec_IsSymmetric.calls kj51 _ _ t450 t451 t456 t457 _ ?side1 ?side2 A99.out).mono ?_); (case side1 => repeat (first | exact (Kd.R_reads' HO453.out).2.2 | (with_reducible refine Kd.C_alloc ?_ _) | (with_reducible refine Kd.C_drewN ?_ _) | (with_reducible refine Kd.C_drew ?_))); (case side2 => exact (Kd.R_reads' HO453.out).2.1); rintro e w108 ⟨rfl, hb⟩; have n0_ := Aside0.mk (Kd.R_below (by (with_reducible repeat (first | apply Kd.R_alloc | apply Kd.R_drewN | apply Kd.R_drew)); exact HO453.out) hb); have n1_ := Aside0.mk (below_step (by repeat (first | (with_reducible first | exact HB.out | apply below_alloc | apply pw_below_drewN | apply below_drew1) | exact HB.out)) hb); clear HO453; clear HB; have HO453 := n0_; have HB := n1_; clear n0_ n1_; (try clear hb); (try clear hb2); (try clear hk); (try clear hi)) | (go_at_call 70; (with_reducible refine (laws_qBack.calls kj51 _ _ t450 t458 _ ?side1 ?side2 A103.out).mono ?_); (case side1 => repeat (first | exact (Kd.R_reads' HO453.out).2.2 | (with_reducible refine Kd.C_alloc ?_ _) | (with_reducible refine Kd.C_drewN ?_ _) | (with_reducible refine Kd.C_drew ?_))); (case side2 => exact (Kd.R_reads' HO453.out).2.1); rintro e w109 ⟨v459, rfl, ho0, hb⟩; have n0_ := Aside0.mk (Kd.R_elder' (by (with_reducible repeat (first | apply Kd.R_alloc | apply Kd.R_drewN | apply Kd.R_drew)); exact HO453.out) (Kd.R_base ho0) hb); have n1_ := Aside0.mk (Kd.R_lower (Kd.R_new' ho0 (Kd.R_lt (by (with_reducible repeat (first | apply Kd.R_alloc | apply Kd.R_drewN | apply Kd.R_drew)); exact HO453.out))) (below_size (by repeat (first | (with_reducible first | exact HB.out | apply below_alloc | apply pw_below_drewN | apply below_drew1) | exact HB.out)))); have n2_ := Aside0.mk (below_step (by repeat (first | (with_reducible first | exact HB.out | apply below_alloc | apply pw_below_drewN | apply below_drew1) | exact HB.out)) hb); clear HO453; clear HB; have HO453 := n0_; have HO460 := n1_; have HB := n2_; clear n0_ n1_ n2_; (try clear hb); (try clear hb2); (try clear hk); (try clear hi); (try clear ho0); obtain ⟨Ao110, co110, eo110⟩ := Kd.R_slice HO460.out; subst eo110) | (go_at_call 17; (with_reducible refine (laws_qSame.calls kj51 _ _ t450 _ _ t458 t461 _ ?side1 ?side2 ?side3 ?side4 A104.out).mono ?_); (case side1 => repeat (first | exact (Kd.R_reads' HO453.out).2.2 | (with_reducible refine Kd.C_alloc ?_ _) | (with_reducible refine Kd.C_drewN ?_ _) | (with_reducible refine Kd.C_drew ?_))); (case side2 => exact (Kd.R_reads' HO453.out).2.1); (case side3 => repeat (first | exact (Kd.R_reads' HO460.out).2.2 | (with_reducible refine Kd.C_alloc ?_ _) | (with_reducible refine Kd.C_drewN ?_ _) | (with_reducible refine Kd.C_drew ?_))); (case side4 => exact (Kd.R_reads' HO460.out).2.1); rintro e w' ⟨rfl, ⟨nd, rfl⟩⟩; (try first | exact ⟨rfl, _, World.drewN_drewN _ _ _⟩ | exact ⟨rfl, _, Eq.trans (World.drewN_drewN _ _ _) (congrArg (World.drewN _) (Nat.add_assoc _ _ _))⟩)))
           repeat (go_quiet (first | (go_at_call 72; (with_reducible refine (spec_DrawIsSymmetric.calls kj51 _ _ l1 t450 t451 _ ?side1 ?side2 A97.out).mono ?_); (case side1 => repeat (first | exact (Kd.C_below HR1.out HB.out) | (with_reducible refine Kd.C_alloc ?_ _) | (with_reducible refine Kd.C_drewN ?_ _) | (with_reducible refine Kd.C_drew ?_))); (case side2 => exact HC1.out); rintro e w105 ⟨v452, rfl, ho0, hb⟩; have n0_ := Aside0.mk (Kd.R_lower ho0 (below_size (by repeat (first | (with_reducible first | exact HB.out | apply below_alloc | apply pw_below_drewN | apply below_drew1) | exact HB.out)))); have n1_ := Aside0.mk (below_step (by repeat (first | (with_reducible first | exact HB.out | apply below_alloc | apply pw_below_drewN | apply below_drew1) | exact HB.out)) hb); clear HB; have HO453 := n0_; have HB := n1_; clear n0_ n1_; (try clear hb); (try clear hb2); (try clear hk); (try clear hi); (try clear ho0); obtain ⟨Ao106, co106, eo106⟩ := Kd.R_slice HO453.out; subst eo106) | (go_at_call 71; (with_reducible refine (impl_IsSymmetric.calls kj51 _ _ t450 t451 t454 true _ ?side1 ?side2 A98.out).mono ?_); (case side1 => repeat (first | exact (Kd.R_reads' HO453.out).2.2 | (with_reducible refine Kd.C_alloc ?_ _) | (with_reducible refine Kd.C_drewN ?_ _) | (with_reducible refine Kd.C_drew ?_))); (case side2 => exact (Kd.R_reads' HO453.out).2.1); rintro e w107 ⟨rfl, hb⟩; have n0_ := Aside0.mk (Kd.R_below (by (with_reducible repeat (first | apply Kd.R_alloc | apply Kd.R_drewN | apply Kd.R_drew)); exact HO453.out) hb); have n1_ := Aside0.mk (below_step (by repeat (first | (with_reducible first | exact HB.out | apply below_alloc | apply pw_below_drewN | apply below_drew1) | exact HB.out)) hb); clear HO453; clear HB; have HO453 := n0_; have HB := n1_; clear n0_ n1_; (try clear hb); (try clear hb2); (try clear hk); (try clear hi)) | (go_at_call 73; (with_reducible refine (spec_IsSymmetric.calls kj51 _ _ t450 t451 t456 t457 _ ?side1 ?side2 A99.out).mono ?_); (case side1 => repeat (first | exact (Kd.R_reads' HO453.out).2.2 | (with_reducible refine Kd.C_alloc ?_ _) | (with_reducible refine Kd.C_drewN ?_ _) | (with_reducible refine Kd.C_drew ?_))); (case side2 => exact (Kd.R_reads' HO453.out).2.1); rintro e w108 ⟨rfl, hb⟩; have n0_ := Aside0.mk (Kd.R_below (by (with_reducible repeat (first | apply Kd.R_alloc | apply Kd.R_drewN | apply Kd.R_drew)); exact HO453.out) hb); have n1_ := Aside0.mk (below_step (by repeat (first | (with_reducible first | exact HB.out | apply below_alloc | apply pw_below_drewN | apply below_drew1) | exact HB.out)) hb); clear HO453; clear HB; have HO453 := n0_; have HB := n1_; clear n0_ n1_; (try clear hb); (try clear hb2); (try clear hk); (try clear hi)) | (go_at_call 70; (with_reducible refine (laws_qBack.calls kj51 _ _ t450 t458 _ ?side1 ?side2 A103.out).mono ?_); (case side1 => repeat (first | exact (Kd.R_reads' HO453.out).2.2 | (with_reducible refine Kd.C_alloc ?_ _) | (with_reducible refine Kd.C_drewN ?_ _) | (with_reducible refine Kd.C_drew ?_))); (case side2 => exact (Kd.R_reads' HO453.out).2.1); rintro e w109 ⟨v459, rfl, ho0, hb⟩; have n0_ := Aside0.mk (Kd.R_elder' (by (with_reducible repeat (first | apply Kd.R_alloc | apply Kd.R_drewN | apply Kd.R_drew)); exact HO453.out) (Kd.R_base ho0) hb); have n1_ := Aside0.mk (Kd.R_lower (Kd.R_new' ho0 (Kd.R_lt (by (with_reducible repeat (first | apply Kd.R_alloc | apply Kd.R_drewN | apply Kd.R_drew)); exact HO453.out))) (below_size (by repeat (first | (with_reducible first | exact HB.out | apply below_alloc | apply pw_below_drewN | apply below_drew1) | exact HB.out)))); have n2_ := Aside0.mk (below_step (by repeat (first | (with_reducible first | exact HB.out | apply below_alloc | apply pw_below_drewN | apply below_drew1) | exact HB.out)) hb); clear HO453; clear HB; have HO453 := n0_; have HO460 := n1_; have HB := n2_; clear n0_ n1_ n2_; (try clear hb); (try clear hb2); (try clear hk); (try clear hi); (try clear ho0); obtain ⟨Ao110, co110, eo110⟩ := Kd.R_slice HO460.out; subst eo110) | (go_at_call 17; (with_reducible refine (laws_qSame.calls kj51 _ _ t450 _ _ t458 t461 _ ?side1 ?side2 ?side3 ?side4 A104.out).mono ?_); (case side1 => repeat (first | exact (Kd.R_reads' HO453.out).2.2 | (with_reducible refine Kd.C_alloc ?_ _) | (with_reducible refine Kd.C_drewN ?_ _) | (with_reducible refine Kd.C_drew ?_))); (case side2 => exact (Kd.R_reads' HO453.out).2.1); (case side3 => repeat (first | exact (Kd.R_reads' HO460.out).2.2 | (with_reducible refine Kd.C_alloc ?_ _) | (with_reducible refine Kd.C_drewN ?_ _) | (with_reducible refine Kd.C_drew ?_))); (case side4 => exact (Kd.R_reads' HO460.out).2.1); rintro e w' ⟨rfl, ⟨nd, rfl⟩⟩; (try first | exact ⟨rfl, _, World.drewN_drewN _ _ _⟩ | exact ⟨rfl, _, Eq.trans (World.drewN_drewN _ _ _) (congrArg (World.drewN _) (Nat.add_assoc _ _ _))⟩))); try go_wp2_with (first | (go_at_call 72; (with_reducible refine (spec_DrawIsSymmetric.calls kj51 _ _ l1 t450 t451 _ ?side1 ?side2 A97.out).mono ?_); (case side1 => repeat (first | exact (Kd.C_below HR1.out HB.out) | (with_reducible refine Kd.C_alloc ?_ _) | (with_reducible refine Kd.C_drewN ?_ _) | (with_reducible refine Kd.C_drew ?_))); (case side2 => exact HC1.out); rintro e w105 ⟨v452, rfl, ho0, hb⟩; have n0_ := Aside0.mk (Kd.R_lower ho0 (below_size (by repeat (first | (with_reducible first | exact HB.out | apply below_alloc | apply pw_below_drewN | apply below_drew1) | exact HB.out)))); have n1_ := Aside0.mk (below_step (by repeat (first | (with_reducible first | exact HB.out | apply below_alloc | apply pw_below_drewN | apply below_drew1) | exact HB.out)) hb); clear HB; have HO453 := n0_; have HB := n1_; clear n0_ n1_; (try clear hb); (try clear hb2); (try clear hk); (try clear hi); (try clear ho0); obtain ⟨Ao106, co106, eo106⟩ := Kd.R_slice HO453.out; subst eo106) | (go_at_call 71; (with_reducible refine (impl_IsSymmetric.calls kj51 _ _ t450 t451 t454 true _ ?side1 ?side2 A98.out).mono ?_); (case side1 => repeat (first | exact (Kd.R_reads' HO453.out).2.2 | (with_reducible refine Kd.C_alloc ?_ _) | (with_reducible refine Kd.C_drewN ?_ _) | (with_reducible refine Kd.C_drew ?_))); (case side2 => exact (Kd.R_reads' HO453.out).2.1); rintro e w107 ⟨rfl, hb⟩; have n0_ := Aside0.mk (Kd.R_below (by (with_reducible repeat (first | apply Kd.R_alloc | apply Kd.R_drewN | apply Kd.R_drew)); exact HO453.out) hb); have n1_ := Aside0.mk (below_step (by repeat (first | (with_reducible first | exact HB.out | apply below_alloc | apply pw_below_drewN | apply below_drew1) | exact HB.out)) hb); clear HO453; clear HB; have HO453 := n0_; have HB := n1_; clear n0_ n1_; (try clear hb); (try clear hb2); (try clear hk); (try clear hi)) | (go_at_call 73; (with_reducible refine (spec_IsSymmetric.calls kj51 _ _ t450 t451 t456 t457 _ ?side1 ?side2 A99.out).mono ?_); (case side1 => repeat (first | exact (Kd.R_reads' HO453.out).2.2 | (with_reducible refine Kd.C_alloc ?_ _) | (with_reducible refine Kd.C_drewN ?_ _) | (with_reducible refine Kd.C_drew ?_))); (case side2 => exact (Kd.R_reads' HO453.out).2.1); rintro e w108 ⟨rfl, hb⟩; have n0_ := Aside0.mk (Kd.R_below (by (with_reducible repeat (first | apply Kd.R_alloc | apply Kd.R_drewN | apply Kd.R_drew)); exact HO453.out) hb); have n1_ := Aside0.mk (below_step (by repeat (first | (with_reducible first | exact HB.out | apply below_alloc | apply pw_below_drewN | apply below_drew1) | exact HB.out)) hb); clear HO453; clear HB; have HO453 := n0_; have HB := n1_; clear n0_ n1_; (try clear hb); (try clear hb2); (try clear hk); (try clear hi)) | (go_at_call 70; (with_reducible refine (laws_qBack.calls kj51 _ _ t450 t458 _ ?side1 ?side2 A103.out).mono ?_); (case side1 => repeat (first | exact (Kd.R_reads' HO453.out).2.2 | (with_reducible refine Kd.C_alloc ?_ _) | (with_reducible refine Kd.C_drewN ?_ _) | (with_reducible refine Kd.C_drew ?_))); (case side2 => exact (Kd.R_reads' HO453.out).2.1); rintro e w109 ⟨v459, rfl, ho0, hb⟩; have n0_ := Aside0.mk (Kd.R_elder' (by (with_reducible repeat (first | apply Kd.R_alloc | apply Kd.R_drewN | apply Kd.R_drew)); exact HO453.out) (Kd.R_base ho0) hb); have n1_ := Aside0.mk (Kd.R_lower (Kd.R_new' ho0 (Kd.R_lt (by (with_reducible repeat (first | apply Kd.R_alloc | apply Kd.R_drewN | apply Kd.R_drew)); exact HO453.out))) (below_size (by repeat (first | (with_reducible first | exact HB.out | apply below_alloc | apply pw_below_drewN | apply below_drew1) | exact HB.out)))); have n2_ := Aside0.mk (below_step (by repeat (first | (with_reducible first | exact HB.out | apply below_alloc | apply pw_below_drewN | apply below_drew1) | exact HB.out)) hb); clear HO453; clear HB; have HO453 := n0_; have HO460 := n1_; have HB := n2_; clear n0_ n1_ n2_; (try clear hb); (try clear hb2); (try clear hk); (try clear hi); (try clear ho0); obtain ⟨Ao110, co110, eo110⟩ := Kd.R_slice HO460.out; subst eo110) | (go_at_call 17; (with_reducible refine (laws_qSame.calls kj51 _ _ t450 _ _ t458 t461 _ ?side1 ?side2 ?side3 ?side4 A104.out).mono ?_); (case side1 => repeat (first | exact (Kd.R_reads' HO453.out).2.2 | (with_reducible refine Kd.C_alloc ?_ _) | (with_reducible refine Kd.C_drewN ?_ _) | (with_reducible refine Kd.C_drew ?_))); (case side2 => exact (Kd.R_reads' HO453.out).2.1); (case side3 => repeat (first | exact (Kd.R_reads' HO460.out).2.2 | (with_reducible refine Kd.C_alloc ?_ _) | (with_reducible refine Kd.C_drewN ?_ _) | (with_reducible refine Kd.C_drew ?_))); (case side4 => exact (Kd.R_reads' HO460.out).2.1); rintro e w' ⟨rfl, ⟨nd, rfl⟩⟩; (try first | exact ⟨rfl, _, World.drewN_drewN _ _ _⟩ | exact ⟨rfl, _, Eq.trans (World.drewN_drewN _ _ _) (congrArg (World.drewN _) (Nat.add_assoc _ _ _))⟩))))
           go_ret
           exact ⟨by first | rfl | (simp [errW_none, errW_some] <;> rfl) | (simp [*, errW_none, errW_some] <;> rfl), by repeat (first | (with_reducible first | exact HB.out | apply below_alloc | apply pw_below_drewN | apply below_drew1) | exact HB.out)⟩
         ·replace c102 := Bool.eq_false_iff.mpr c102
          subst c102
          have H1 : (some true) = some r := by rw [if_neg (show ¬ (false = true) by decide)] at H; exact H
          clear H
          have H := H1
          clear H1
          as_aux_lemma =>
           obtain rfl := Option.some.inj H
           go_wp2_with (first | (go_at_call 72; (with_reducible refine (spec_DrawIsSymmetric.calls kj51 _ _ l1 t450 t451 _ ?side1 ?side2 A97.out).mono ?_); (case side1 => repeat (first | exact (Kd.C_below HR1.out HB.out) | (with_reducible refine Kd.C_alloc ?_ _) | (with_reducible refine Kd.C_drewN ?_ _) | (with_reducible refine Kd.C_drew ?_))); (case side2 => exact HC1.out); rintro e w111 ⟨v452, rfl, ho0, hb⟩; have n0_ := Aside0.mk (Kd.R_lower ho0 (below_size (by repeat (first | (with_reducible first | exact HB.out | apply below_alloc | apply pw_below_drewN | apply below_drew1) | exact HB.out)))); have n1_ := Aside0.mk (below_step (by repeat (first | (with_reducible first | exact HB.out | apply below_alloc | apply pw_below_drewN | apply below_drew1) | exact HB.out)) hb); clear HB; have HO453 := n0_; have HB := n1_; clear n0_ n1_; (try clear hb); (try clear hb2); (try clear hk); (try clear hi); (try clear ho0); obtain ⟨Ao112, co112, eo112⟩ := Kd.R_slice HO453.out; subst eo112) | (go_at_call 71; (with_reducible refine (impl_IsSymmetric.calls kj51 _ _ t450 t451 t454 false _ ?side1 ?side2 A98.out).mono ?_); (case side1 => repeat (first | exact (Kd.R_reads' HO453.out).2.2 | (with_reducible refine Kd.C_alloc ?_ _) | (with_reducible refine Kd.C_drewN ?_ _) | (with_reducible refine Kd.C_drew ?_))); (case side2 => exact (Kd.R_reads' HO453.out).2.1); rintro e w113 ⟨rfl, hb⟩; have n0_ := Aside0.mk (Kd.R_below (by (with_reducible repeat (first | apply Kd.R_alloc | apply Kd.R_drewN | apply Kd.R_drew)); exact HO453.out) hb); have n1_ := Aside0.mk (below_step (by repeat (first | (with_reducible first | exact HB.out | apply below_alloc | apply pw_below_drewN | apply below_drew1) | exact HB.out)) hb); clear HO453; clear HB; have HO453 := n0_; have HB := n1_; clear n0_ n1_; (try clear hb); (try clear hb2); (try clear hk); (try clear hi)) | (go_at_call 73; (with_reducible refine (spec_IsSymmetric.calls kj51 _ _ t450 t451 t456 t457 _ ?side1 ?side2 A99.out).mono ?_); (case side1 => repeat (first | exact (Kd.R_reads' HO453.out).2.2 | (with_reducible refine Kd.C_alloc ?_ _) | (with_reducible refine Kd.C_drewN ?_ _) | (with_reducible refine Kd.C_drew ?_))); (case side2 => exact (Kd.R_reads' HO453.out).2.1); rintro e w114 ⟨rfl, hb⟩; have n0_ := Aside0.mk (Kd.R_below (by (with_reducible repeat (first | apply Kd.R_alloc | apply Kd.R_drewN | apply Kd.R_drew)); exact HO453.out) hb); have n1_ := Aside0.mk (below_step (by repeat (first | (with_reducible first | exact HB.out | apply below_alloc | apply pw_below_drewN | apply below_drew1) | exact HB.out)) hb); clear HO453; clear HB; have HO453 := n0_; have HB := n1_; clear n0_ n1_; (try clear hb); (try clear hb2); (try clear hk); (try clear hi)))
           repeat (go_quiet (first | (go_at_call 72; (with_reducible refine (spec_DrawIsSymmetric.calls kj51 _ _ l1 t450 t451 _ ?side1 ?side2 A97.out).mono ?_); (case side1 => repeat (first | exact (Kd.C_below HR1.out HB.out) | (with_reducible refine Kd.C_alloc ?_ _) | (with_reducible refine Kd.C_drewN ?_ _) | (with_reducible refine Kd.C_drew ?_))); (case side2 => exact HC1.out); rintro e w111 ⟨v452, rfl, ho0, hb⟩; have n0_ := Aside0.mk (Kd.R_lower ho0 (below_size (by repeat (first | (with_reducible first | exact HB.out | apply below_alloc | apply pw_below_drewN | apply below_drew1) | exact HB.out)))); have n1_ := Aside0.mk (below_step (by repeat (first | (with_reducible first | exact HB.out | apply below_alloc | apply pw_below_drewN | apply below_drew1) | exact HB.out)) hb); clear HB; have HO453 := n0_; have HB := n1_; clear n0_ n1_; (try clear hb); (try clear hb2); (try clear hk); (try clear hi); (try clear ho0); obtain ⟨Ao112, co112, eo112⟩ := Kd.R_slice HO453.out; subst eo112) | (go_at_call 71; (with_reducible refine (impl_IsSymmetric.calls kj51 _ _ t450 t451 t454 false _ ?side1 ?side2 A98.out).mono ?_); (case side1 => repeat (first | exact (Kd.R_reads' HO453.out).2.2 | (with_reducible refine Kd.C_alloc ?_ _) | (with_reducible refine Kd.C_drewN ?_ _) | (with_reducible refine Kd.C_drew ?_))); (case side2 => exact (Kd.R_reads' HO453.out).2.1); rintro e w113 ⟨rfl, hb⟩; have n0_ := Aside0.mk (Kd.R_below (by (with_reducible repeat (first | apply Kd.R_alloc | apply Kd.R_drewN | apply Kd.R_drew)); exact HO453.out) hb); have n1_ := Aside0.mk (below_step (by repeat (first | (with_reducible first | exact HB.out | apply below_alloc | apply pw_below_drewN | apply below_drew1) | exact HB.out)) hb); clear HO453; clear HB; have HO453 := n0_; have HB := n1_; clear n0_ n1_; (try clear hb); (try clear hb2); (try clear hk); (try clear hi)) | (go_at_call 73; (with_reducible refine (spec_IsSymmetric.calls kj51 _ _ t450 t451 t456 t457 _ ?side1 ?side2 A99.out).mono ?_); (case side1 => repeat (first | exact (Kd.R_reads' HO453.out).2.2 | (with_reducible refine Kd.C_alloc ?_ _) | (with_reducible refine Kd.C_drewN ?_ _) | (with_reducible refine Kd.C_drew ?_))); (case side2 => exact (Kd.R_reads' HO453.out).2.1); rintro e w114 ⟨rfl, hb⟩; have n0_ := Aside0.mk (Kd.R_below (by (with_reducible repeat (first | apply Kd.R_alloc | apply Kd.R_drewN | apply Kd.R_drew)); exact HO453.out) hb); have n1_ := Aside0.mk (below_step (by repeat (first | (with_reducible first | exact HB.out | apply below_alloc | apply pw_below_drewN | apply below_drew1) | exact HB.out)) hb); clear HO453; clear HB; have HO453 := n0_; have HB := n1_; clear n0_ n1_; (try clear hb); (try clear hb2); (try clear hk); (try clear hi))); try go_wp2_with (first | (go_at_call 72; (with_reducible refine (spec_DrawIsSymmetric.calls kj51 _ _ l1 t450 t451 _ ?side1 ?side2 A97.out).mono ?_); (case side1 => repeat (first | exact (Kd.C_below HR1.out HB.out) | (with_reducible refine Kd.C_alloc ?_ _) | (with_reducible refine Kd.C_drewN ?_ _) | (with_reducible refine Kd.C_drew ?_))); (case side2 => exact HC1.out); rintro e w111 ⟨v452, rfl, ho0, hb⟩; have n0_ := Aside0.mk (Kd.R_lower ho0 (below_size (by repeat (first | (with_reducible first | exact HB.out | apply below_alloc | apply pw_below_drewN | apply below_drew1) | exact HB.out)))); have n1_ := Aside0.mk (below_step (by repeat (first | (with_reducible first | exact HB.out | apply below_alloc | apply pw_below_drewN | apply below_drew1) | exact HB.out)) hb); clear HB; have HO453 := n0_; have HB := n1_; clear n0_ n1_; (try clear hb); (try clear hb2); (try clear hk); (try clear hi); (try clear ho0); obtain ⟨Ao112, co112, eo112⟩ := Kd.R_slice HO453.out; subst eo112) | (go_at_call 71; (with_reducible refine (impl_IsSymmetric.calls kj51 _ _ t450 t451 t454 false _ ?side1 ?side2 A98.out).mono ?_); (case side1 => repeat (first | exact (Kd.R_reads' HO453.out).2.2 | (with_reducible refine Kd.C_alloc ?_ _) | (with_reducible refine Kd.C_drewN ?_ _) | (with_reducible refine Kd.C_drew ?_))); (case side2 => exact (Kd.R_reads' HO453.out).2.1); rintro e w113 ⟨rfl, hb⟩; have n0_ := Aside0.mk (Kd.R_below (by (with_reducible repeat (first | apply Kd.R_alloc | apply Kd.R_drewN | apply Kd.R_drew)); exact HO453.out) hb); have n1_ := Aside0.mk (below_step (by repeat (first | (with_reducible first | exact HB.out | apply below_alloc | apply pw_below_drewN | apply below_drew1) | exact HB.out)) hb); clear HO453; clear HB; have HO453 := n0_; have HB := n1_; clear n0_ n1_; (try clear hb); (try clear hb2); (try clear hk); (try clear hi)) | (go_at_call 73; (with_reducible refine (spec_IsSymmetric.calls kj51 _ _ t450 t451 t456 t457 _ ?side1 ?side2 A99.out).mono ?_); (case side1 => repeat (first | exact (Kd.R_reads' HO453.out).2.2 | (with_reducible refine Kd.C_alloc ?_ _) | (with_reducible refine Kd.C_drewN ?_ _) | (with_reducible refine Kd.C_drew ?_))); (case side2 => exact (Kd.R_reads' HO453.out).2.1); rintro e w114 ⟨rfl, hb⟩; have n0_ := Aside0.mk (Kd.R_below (by (with_reducible repeat (first | apply Kd.R_alloc | apply Kd.R_drewN | apply Kd.R_drew)); exact HO453.out) hb); have n1_ := Aside0.mk (below_step (by repeat (first | (with_reducible first | exact HB.out | apply below_alloc | apply pw_below_drewN | apply below_drew1) | exact HB.out)) hb); clear HO453; clear HB; have HO453 := n0_; have HB := n1_; clear n0_ n1_; (try clear hb); (try clear hb2); (try clear hk); (try clear hi))))
           go_ret
           exact ⟨by first | rfl | (simp [errW_none, errW_some] <;> rfl) | (simp [*, errW_none, errW_some] <;> rfl), by repeat (first | (with_reducible first | exact HB.out | apply below_alloc | apply pw_below_drewN | apply below_drew1) | exact HB.out)⟩

/-- THE ONE PURE STATEMENT of laws_FnAddedBackwards: yours. -/
def laws_FnAddedBackwards.Pure : Prop := ∀ (l0 : List Int) (l1 : List Int), l0.length ≤ maxLen → l0.length * 1 ≤ 140737488351232 → (∀ x ∈ l0, (Lit.int .u8 x).wf = true) → l1.length ≤ maxLen → l1.length * 1 ≤ 140737488351232 → (∀ x ∈ l1, (Lit.int .u8 x).wf = true) → ∃ k, laws_FnAddedBackwards.f k l0 l1 = some true
theorem laws_FnAddedBackwards.walk (P : laws_FnAddedBackwards.Pure) (a0 : Option Addr) (len0 cap0 : Nat) (z0 : List Int) (a1 : Option Addr) (len1 cap1 : Nat) (z1 : List Int) (w : World) (w0 : (a0 = none ∧ len0 = 0 ∧ cap0 = 0 ∧ z0 = []) ∨ ∃ x, a0 = some x ∧ len0 ≤ cap0 ∧ cap0 ≤ maxLen ∧ z0.length = cap0 ∧ (∀ i, i < z0.length → w.cell? (x.add i) = some (.int .u8 (z0.getD i 0))) ∧ ∀ n ∈ z0, (Lit.int .u8 n).wf = true) (y0 : len0 * 1 ≤ 140737488351232) (w1 : (a1 = none ∧ len1 = 0 ∧ cap1 = 0 ∧ z1 = []) ∨ ∃ x, a1 = some x ∧ len1 ≤ cap1 ∧ cap1 ≤ maxLen ∧ z1.length = cap1 ∧ (∀ i, i < z1.length → w.cell? (x.add i) = some (.int .u8 (z1.getD i 0))) ∧ ∀ n ∈ z1, (Lit.int .u8 n).wf = true) (y1 : len1 * 1 ≤ 140737488351232) :
  Calls Try.prog 7 #[.slice a0 len0 cap0, .slice a1 len1 cap1] w fun e w' => e = .returned (.bool true) ∧ Below w.heap.size w w' := by
 obtain ⟨l0, rfl, hr0, hm0, hw0, hc0⟩ := ReadsInt.ofRowC w0
 obtain ⟨l1, rfl, hr1, hm1, hw1, hc1⟩ := ReadsInt.ofRowC w1
 obtain ⟨k, h⟩ := P l0 l1 hm0 y0 hw0 hm1 y1 hw1
 refine (laws_FnAddedBackwards.calls k _ _ l0 _ _ l1 true w (Kd.C_of_reads (d := (0 : Int)) (h1 := fun _ => rfl) hr0) hc0 (Kd.C_of_reads (d := (0 : Int)) (h1 := fun _ => rfl) hr1) hc1 h).mono ?_
 rintro e w' ⟨rfl, hd⟩
 exact ⟨rfl, hd⟩

end Go.Proofs.Ythamjbfdhghbbaa.PFnAddedBackwards
