/- Contracts of Go functions that the law FnSumsOfDigitsRun reaches: each call does what the Lean function beside it says. Written by a program of this session (wip/gen). -/
import Derived.Test.YthamjbfdhghbbaaPFnSumsOfDigitsRunx0
import Derived.Test.YthamjbfdhghbbaaPFnSumsOfDigitsRunx1
import Derived.Test.YthamjbfdhghbbaaPFnSumsOfDigitsRunx2
import Derived.Test.YthamjbfdhghbbaaPFnSumsOfDigitsRunx3
import Derived.Test.YthamjbfdhghbbaaPFnSumsOfDigitsRunx4
import Derived.Test.YthamjbfdhghbbaaPFnSumsOfDigitsRunx5
namespace Go.Proofs.Ythamjbfdhghbbaa.PFnSumsOfDigitsRun
open Go.RowKit Go.Proofs.YthamjbfdhghbbaaW.PrintWords Go.Proofs.YthamjbfdhghbbaaW.PrintLast Go.Proofs.YthamjbfdhghbbaaW.PrintMore
attribute [local go_sem] max2_int min2_int max_two min_two max_three min_three max_four min_four   -- for this text's walks alone
set_option linter.unusedVariables false
set_option linter.unusedSimpArgs false

/-! ### laws_FnSumsOfDigitsRun: function 3 -/
mutual
def laws_FnSumsOfDigitsRun.j1 : Nat → List Int → Option (Bool)
 | 0, _ => none
 | k + 1, x1 => (spec_DrawLeastSumPersistent.f x1).bind fun bt291 => ((impl_LeastSumPersistent.f k bt291.1 bt291.2).bind fun bt293 => ((spec_LeastSumPersistent.f k bt291.1 bt291.2).bind fun bt295 => (if (bt293.2 != bt295.2) = true then (none) else (if bt293.1 = bt295.1 then (if bt293.2 = true then ((impl_SumPersistence.f k bt293.1 bt291.2).bind fun bt297 => (if bt297.2 = true then (some (bt297.1 == bt291.1)) else (none))) else (some true)) else (none)))))
def laws_FnSumsOfDigitsRun.l0 : Nat → List Int → Int → Int → List Int → Int → Int → Option (Bool)
 | 0, _, _, _, _, _, _ => none
 | k + 1, x1, x5, x6, x7, x11, x22 => if x22 < (x7.length : Int) then (if 0 ≤ (wrap64 (x22 - 1)) then (if (wrap64 (x22 - 1)) < (x7.length : Int) then ((impl_DigitSum.f k (rd x7 (wrap64 (x22 - 1))) x6).bind fun bt284 => (if bt284.2 = true then (if 0 ≤ x22 then (if bt284.1 = (rd x7 x22) then (if bt284.1 ≥ (rd x7 (wrap64 (x22 - 1))) then (none) else (if (wrap64 (x6 - 1)) = 0 then (none) else (if (Int.tmod (wrap64 ((rd x7 (wrap64 (x22 - 1))) - bt284.1)) (wrap64 (x6 - 1))) = 0 then (laws_FnSumsOfDigitsRun.l0 k x1 x5 x6 x7 x11 (wrap64 (x22 + 1))) else (none)))) else (none)) else (none)) else (none))) else (none)) else (none)) else ((impl_LeastSumPersistent.f k x11 x6).bind fun bt289 => (if bt289.2 = true then (if x5 < bt289.1 then (none) else (laws_FnSumsOfDigitsRun.j1 k x1)) else (laws_FnSumsOfDigitsRun.j1 k x1)))
end
def laws_FnSumsOfDigitsRun.f (k : Nat) (l0 : List Int) (l1 : List Int) : Option (Bool) := (laws_big.f l0 l1).bind fun t260 => (if t260 = true then (some true) else ((spec_DrawSumRun.f k l0).bind fun bt261 => ((impl_SumRun.f k bt261.1 bt261.2).bind fun bt263 => ((spec_SumRun.f k bt261.1 bt261.2).bind fun bt267 => ((impl_SumPersistence.f k bt261.1 bt261.2).bind fun bt271 => ((spec_SumPersistence.f k bt261.1 bt261.2).bind fun bt273 => ((impl_RootByRemainder.f bt261.1 bt261.2).bind fun bt275 => ((spec_RootByRemainder.f bt261.1 bt261.2).bind fun bt277 => (if (bt263.2 != bt267.2) = true then (none) else ((laws_qSame.f k bt263.1 bt267.1).bind fun t279 => (if t279 = true then (if (bt271.2 != bt273.2) = true then (none) else (if bt271.1 = bt273.1 then (if (bt275.2 != bt277.2) = true then (none) else (if bt275.1 = bt277.1 then (if (bt271.2 != bt263.2) = true then (none) else (if (bt275.2 != bt263.2) = true then (none) else (if bt263.2 = true then (if 0 ≤ (wrap64 ((bt263.1.length : Int) - 1)) then (if (wrap64 ((bt263.1.length : Int) - 1)) < (bt263.1.length : Int) then ((impl_DigitalRoot.f k bt261.1 bt261.2).bind fun bt281 => (if (bt263.1.length : Int) = (wrap64 (bt271.1 + 1)) then (if (rd bt263.1 (wrap64 ((bt263.1.length : Int) - 1))) = bt275.1 then (if bt281.2 = true then (if bt281.1 = bt275.1 then (laws_FnSumsOfDigitsRun.l0 k l1 bt261.1 bt261.2 bt263.1 bt271.1 1) else (none)) else (none)) else (none)) else (none))) else (none)) else (none)) else (laws_FnSumsOfDigitsRun.j1 k l1)))) else (none))) else (none))) else (none))))))))))))
theorem laws_FnSumsOfDigitsRun.mono_l : ∀ k, (∀ y0, LeO (laws_FnSumsOfDigitsRun.j1 k y0) (laws_FnSumsOfDigitsRun.j1 (k + 1) y0)) ∧ (∀ y0 y1 y2 y3 y4 y5, LeO (laws_FnSumsOfDigitsRun.l0 k y0 y1 y2 y3 y4 y5) (laws_FnSumsOfDigitsRun.l0 (k + 1) y0 y1 y2 y3 y4 y5))
 | 0 => ⟨fun _ r h => by simp [laws_FnSumsOfDigitsRun.j1] at h, fun _ _ _ _ _ _ r h => by simp [laws_FnSumsOfDigitsRun.l0] at h⟩
 | k + 1 => by
  obtain ⟨ih0, ih1⟩ := laws_FnSumsOfDigitsRun.mono_l k
  refine ⟨?_, ?_⟩
  ·intro y0
   unfold laws_FnSumsOfDigitsRun.j1
   repeat' first
   | (with_reducible exact ih0 _)
   | (with_reducible exact ih1 _ _ _ _ _ _)
   | (with_reducible exact impl_DigitSum.mono _ _ _)
   | (with_reducible exact impl_DigitalRoot.mono _ _ _)
   | (with_reducible exact impl_LeastSumPersistent.mono _ _ _)
   | (with_reducible exact impl_SumPersistence.mono _ _ _)
   | (with_reducible exact impl_SumRun.mono _ _ _)
   | (with_reducible exact laws_qSame.mono _ _ _)
   | (with_reducible exact spec_DrawSumRun.mono _ _)
   | (with_reducible exact spec_LeastSumPersistent.mono _ _ _)
   | (with_reducible exact spec_SumPersistence.mono _ _ _)
   | (with_reducible exact spec_SumRun.mono _ _ _)
   | (with_reducible exact LeO.refl _)
   | (with_reducible exact LeO.none _)
   | (with_reducible refine LeO.ite ?_ ?_)
   | (with_reducible refine LeO.bind ?_ (fun _ => ?_))
   | exact ih0 _
   | exact ih1 _ _ _ _ _ _
   | exact impl_DigitSum.mono _ _ _
   | exact impl_DigitalRoot.mono _ _ _
   | exact impl_LeastSumPersistent.mono _ _ _
   | exact impl_SumPersistence.mono _ _ _
   | exact impl_SumRun.mono _ _ _
   | exact laws_qSame.mono _ _ _
   | exact spec_DrawSumRun.mono _ _
   | exact spec_LeastSumPersistent.mono _ _ _
   | exact spec_SumPersistence.mono _ _ _
   | exact spec_SumRun.mono _ _ _
   | exact LeO.none _
   | refine LeO.ite ?_ ?_
   | refine LeO.bind ?_ (fun _ => ?_)
  ·intro y0 y1 y2 y3 y4 y5
   unfold laws_FnSumsOfDigitsRun.l0
   repeat' first
   | (with_reducible exact ih0 _)
   | (with_reducible exact ih1 _ _ _ _ _ _)
   | (with_reducible exact impl_DigitSum.mono _ _ _)
   | (with_reducible exact impl_DigitalRoot.mono _ _ _)
   | (with_reducible exact impl_LeastSumPersistent.mono _ _ _)
   | (with_reducible exact impl_SumPersistence.mono _ _ _)
   | (with_reducible exact impl_SumRun.mono _ _ _)
   | (with_reducible exact laws_qSame.mono _ _ _)
   | (with_reducible exact spec_DrawSumRun.mono _ _)
   | (with_reducible exact spec_LeastSumPersistent.mono _ _ _)
   | (with_reducible exact spec_SumPersistence.mono _ _ _)
   | (with_reducible exact spec_SumRun.mono _ _ _)
   | (with_reducible exact LeO.refl _)
   | (with_reducible exact LeO.none _)
   | (with_reducible refine LeO.ite ?_ ?_)
   | (with_reducible refine LeO.bind ?_ (fun _ => ?_))
   | exact ih0 _
   | exact ih1 _ _ _ _ _ _
   | exact impl_DigitSum.mono _ _ _
   | exact impl_DigitalRoot.mono _ _ _
   | exact impl_LeastSumPersistent.mono _ _ _
   | exact impl_SumPersistence.mono _ _ _
   | exact impl_SumRun.mono _ _ _
   | exact laws_qSame.mono _ _ _
   | exact spec_DrawSumRun.mono _ _
   | exact spec_LeastSumPersistent.mono _ _ _
   | exact spec_SumPersistence.mono _ _ _
   | exact spec_SumRun.mono _ _ _
   | exact LeO.none _
   | refine LeO.ite ?_ ?_
   | refine LeO.bind ?_ (fun _ => ?_)
theorem laws_FnSumsOfDigitsRun.mono : ∀ a0 a1 k, LeO (laws_FnSumsOfDigitsRun.f k a0 a1) (laws_FnSumsOfDigitsRun.f (k + 1) a0 a1) := by
 intro a0 a1 k
 obtain ⟨ih0, ih1⟩ := laws_FnSumsOfDigitsRun.mono_l k
 unfold laws_FnSumsOfDigitsRun.f
 repeat' first
   | (with_reducible exact ih0 _)
   | (with_reducible exact ih1 _ _ _ _ _ _)
   | (with_reducible exact impl_DigitSum.mono _ _ _)
   | (with_reducible exact impl_DigitalRoot.mono _ _ _)
   | (with_reducible exact impl_LeastSumPersistent.mono _ _ _)
   | (with_reducible exact impl_SumPersistence.mono _ _ _)
   | (with_reducible exact impl_SumRun.mono _ _ _)
   | (with_reducible exact laws_qSame.mono _ _ _)
   | (with_reducible exact spec_DrawSumRun.mono _ _)
   | (with_reducible exact spec_LeastSumPersistent.mono _ _ _)
   | (with_reducible exact spec_SumPersistence.mono _ _ _)
   | (with_reducible exact spec_SumRun.mono _ _ _)
   | (with_reducible exact LeO.refl _)
   | (with_reducible exact LeO.none _)
   | (with_reducible refine LeO.ite ?_ ?_)
   | (with_reducible refine LeO.bind ?_ (fun _ => ?_))
   | exact ih0 _
   | exact ih1 _ _ _ _ _ _
   | exact impl_DigitSum.mono _ _ _
   | exact impl_DigitalRoot.mono _ _ _
   | exact impl_LeastSumPersistent.mono _ _ _
   | exact impl_SumPersistence.mono _ _ _
   | exact impl_SumRun.mono _ _ _
   | exact laws_qSame.mono _ _ _
   | exact spec_DrawSumRun.mono _ _
   | exact spec_LeastSumPersistent.mono _ _ _
   | exact spec_SumPersistence.mono _ _ _
   | exact spec_SumRun.mono _ _ _
   | exact LeO.none _
   | refine LeO.ite ?_ ?_
   | refine LeO.bind ?_ (fun _ => ?_)
set_option maxHeartbeats 8000000 in
set_option maxRecDepth 100000 in
theorem laws_FnSumsOfDigitsRun.calls (k : Nat) (A0 : Option Addr) (c0 : Nat) (l0 : List Int) (A1 : Option Addr) (c1 : Nat) (l1 : List Int) (r : Bool) (w : World) (hr0 : Kd.C (Kd.int .u8) w A0 l0.length l0) (hc0 : l0.length ≤ c0) (hr1 : Kd.C (Kd.int .u8) w A1 l1.length l1) (hc1 : l1.length ≤ c1) (h : laws_FnSumsOfDigitsRun.f k l0 l1 = some r) :
  Calls Try.prog 3 #[.slice A0 l0.length c0, .slice A1 l1.length c1] w fun e w' => e = .returned (.bool r) ∧ Below w.heap.size w w' := by
 have HR0 := Aside0.mk hr0
 have HC0 := Aside0.mk hc0
 clear hr0 hc0
 have HR1 := Aside0.mk hr1
 have HC1 := Aside0.mk hc1
 clear hr1 hc1
 have HB := Aside0.mk (Below.refl w.heap.size w)
 have H : ((laws_big.f l0 l1).bind fun t260 => (if t260 = true then (some true) else ((spec_DrawSumRun.f k l0).bind fun bt261 => ((impl_SumRun.f k bt261.1 bt261.2).bind fun bt263 => ((spec_SumRun.f k bt261.1 bt261.2).bind fun bt267 => ((impl_SumPersistence.f k bt261.1 bt261.2).bind fun bt271 => ((spec_SumPersistence.f k bt261.1 bt261.2).bind fun bt273 => ((impl_RootByRemainder.f bt261.1 bt261.2).bind fun bt275 => ((spec_RootByRemainder.f bt261.1 bt261.2).bind fun bt277 => (if (bt263.2 != bt267.2) = true then (none) else ((laws_qSame.f k bt263.1 bt267.1).bind fun t279 => (if t279 = true then (if (bt271.2 != bt273.2) = true then (none) else (if bt271.1 = bt273.1 then (if (bt275.2 != bt277.2) = true then (none) else (if bt275.1 = bt277.1 then (if (bt271.2 != bt263.2) = true then (none) else (if (bt275.2 != bt263.2) = true then (none) else (if bt263.2 = true then (if 0 ≤ (wrap64 ((bt263.1.length : Int) - 1)) then (if (wrap64 ((bt263.1.length : Int) - 1)) < (bt263.1.length : Int) then ((impl_DigitalRoot.f k bt261.1 bt261.2).bind fun bt281 => (if (bt263.1.length : Int) = (wrap64 (bt271.1 + 1)) then (if (rd bt263.1 (wrap64 ((bt263.1.length : Int) - 1))) = bt275.1 then (if bt281.2 = true then (if bt281.1 = bt275.1 then (laws_FnSumsOfDigitsRun.l0 k l1 bt261.1 bt261.2 bt263.1 bt271.1 1) else (none)) else (none)) else (none)) else (none))) else (none)) else (none)) else (laws_FnSumsOfDigitsRun.j1 k l1)))) else (none))) else (none))) else (none))))))))))))) = some r := h
 clear h
 replace H := Option.bind_eq_some_iff.mp H
 obtain ⟨t260, A30, H⟩ := H
 replace H : (if t260 = true then (some true) else ((spec_DrawSumRun.f k l0).bind fun bt261 => ((impl_SumRun.f k bt261.1 bt261.2).bind fun bt263 => ((spec_SumRun.f k bt261.1 bt261.2).bind fun bt267 => ((impl_SumPersistence.f k bt261.1 bt261.2).bind fun bt271 => ((spec_SumPersistence.f k bt261.1 bt261.2).bind fun bt273 => ((impl_RootByRemainder.f bt261.1 bt261.2).bind fun bt275 => ((spec_RootByRemainder.f bt261.1 bt261.2).bind fun bt277 => (if (bt263.2 != bt267.2) = true then (none) else ((laws_qSame.f k bt263.1 bt267.1).bind fun t279 => (if t279 = true then (if (bt271.2 != bt273.2) = true then (none) else (if bt271.1 = bt273.1 then (if (bt275.2 != bt277.2) = true then (none) else (if bt275.1 = bt277.1 then (if (bt271.2 != bt263.2) = true then (none) else (if (bt275.2 != bt263.2) = true then (none) else (if bt263.2 = true then (if 0 ≤ (wrap64 ((bt263.1.length : Int) - 1)) then (if (wrap64 ((bt263.1.length : Int) - 1)) < (bt263.1.length : Int) then ((impl_DigitalRoot.f k bt261.1 bt261.2).bind fun bt281 => (if (bt263.1.length : Int) = (wrap64 (bt271.1 + 1)) then (if (rd bt263.1 (wrap64 ((bt263.1.length : Int) - 1))) = bt275.1 then (if bt281.2 = true then (if bt281.1 = bt275.1 then (laws_FnSumsOfDigitsRun.l0 k l1 bt261.1 bt261.2 bt263.1 bt271.1 1) else (none)) else (none)) else (none)) else (none))) else (none)) else (none)) else (laws_FnSumsOfDigitsRun.j1 k l1)))) else (none))) else (none))) else (none)))))))))))) = some r := H
 have A3 := Aside0.mk A30
 clear A30
 by_cases c4 : t260 = true
 ·subst c4
  have H1 : (some true) = some r := by rw [if_pos rfl] at H; exact H
  clear H
  have H := H1
  clear H1
  as_aux_lemma =>
   obtain rfl := Option.some.inj H
   go_enter Try.func3, Try.ntmps3
   go_wp2_with (first | ((with_reducible refine gate_callee (f := 9) rfl ?_); refine goesL_ (some 37) rfl rfl Try.func9 (by kernel_rfl) rfl #[.slice A0 l0.length c0, .slice A1 l1.length c1] rfl (by (try simp only [List.map_toArray, List.map_cons, List.map_nil]); first | done | rfl | (simp only [List.length_drop, List.length_take]; rfl)) ?_; (with_reducible refine (laws_big.calls _ _ l0 _ _ l1 true _ ?side1 ?side2 ?side3 ?side4 A3.out).mono ?_); (case side1 => repeat (first | exact HR0.out | (with_reducible refine Kd.C_alloc ?_ _) | (with_reducible refine Kd.C_drewN ?_ _) | (with_reducible refine Kd.C_drew ?_))); (case side2 => exact HC0.out); (case side3 => repeat (first | exact HR1.out | (with_reducible refine Kd.C_alloc ?_ _) | (with_reducible refine Kd.C_drewN ?_ _) | (with_reducible refine Kd.C_drew ?_))); (case side4 => exact HC1.out); rintro e w' ⟨rfl, ⟨nd, rfl⟩⟩; refine ⟨_, rfl, ?_⟩))
   go_ret
   exact ⟨by first | rfl | (simp [errW_none, errW_some] <;> rfl) | (simp [*, errW_none, errW_some] <;> rfl), by repeat (first | (with_reducible first | exact HB.out | apply below_alloc | apply pw_below_drewN | apply below_drew1) | exact HB.out)⟩
 ·replace c4 := Bool.eq_false_iff.mpr c4
  subst c4
  have H1 : ((spec_DrawSumRun.f k l0).bind fun bt261 => ((impl_SumRun.f k bt261.1 bt261.2).bind fun bt263 => ((spec_SumRun.f k bt261.1 bt261.2).bind fun bt267 => ((impl_SumPersistence.f k bt261.1 bt261.2).bind fun bt271 => ((spec_SumPersistence.f k bt261.1 bt261.2).bind fun bt273 => ((impl_RootByRemainder.f bt261.1 bt261.2).bind fun bt275 => ((spec_RootByRemainder.f bt261.1 bt261.2).bind fun bt277 => (if (bt263.2 != bt267.2) = true then (none) else ((laws_qSame.f k bt263.1 bt267.1).bind fun t279 => (if t279 = true then (if (bt271.2 != bt273.2) = true then (none) else (if bt271.1 = bt273.1 then (if (bt275.2 != bt277.2) = true then (none) else (if bt275.1 = bt277.1 then (if (bt271.2 != bt263.2) = true then (none) else (if (bt275.2 != bt263.2) = true then (none) else (if bt263.2 = true then (if 0 ≤ (wrap64 ((bt263.1.length : Int) - 1)) then (if (wrap64 ((bt263.1.length : Int) - 1)) < (bt263.1.length : Int) then ((impl_DigitalRoot.f k bt261.1 bt261.2).bind fun bt281 => (if (bt263.1.length : Int) = (wrap64 (bt271.1 + 1)) then (if (rd bt263.1 (wrap64 ((bt263.1.length : Int) - 1))) = bt275.1 then (if bt281.2 = true then (if bt281.1 = bt275.1 then (laws_FnSumsOfDigitsRun.l0 k l1 bt261.1 bt261.2 bt263.1 bt271.1 1) else (none)) else (none)) else (none)) else (none))) else (none)) else (none)) else (laws_FnSumsOfDigitsRun.j1 k l1)))) else (none))) else (none))) else (none))))))))))) = some r := by rw [if_neg (show ¬ (false = true) by decide)] at H; exact H
  clear H
  have H := H1
  clear H1
  replace H := Option.bind_eq_some_iff.mp H
  obtain ⟨⟨t261, t262⟩, A50, H⟩ := H
  replace H : ((impl_SumRun.f k t261 t262).bind fun bt263 => ((spec_SumRun.f k t261 t262).bind fun bt267 => ((impl_SumPersistence.f k t261 t262).bind fun bt271 => ((spec_SumPersistence.f k t261 t262).bind fun bt273 => ((impl_RootByRemainder.f t261 t262).bind fun bt275 => ((spec_RootByRemainder.f t261 t262).bind fun bt277 => (if (bt263.2 != bt267.2) = true then (none) else ((laws_qSame.f k bt263.1 bt267.1).bind fun t279 => (if t279 = true then (if (bt271.2 != bt273.2) = true then (none) else (if bt271.1 = bt273.1 then (if (bt275.2 != bt277.2) = true then (none) else (if bt275.1 = bt277.1 then (if (bt271.2 != bt263.2) = true then (none) else (if (bt275.2 != bt263.2) = true then (none) else (if bt263.2 = true then (if 0 ≤ (wrap64 ((bt263.1.length : Int) - 1)) then (if (wrap64 ((bt263.1.length : Int) - 1)) < (bt263.1.length : Int) then ((impl_DigitalRoot.f k t261 t262).bind fun bt281 => (if (bt263.1.length : Int) = (wrap64 (bt271.1 + 1)) then (if (rd bt263.1 (wrap64 ((bt263.1.length : Int) - 1))) = bt275.1 then (if bt281.2 = true then (if bt281.1 = bt275.1 then (laws_FnSumsOfDigitsRun.l0 k l1 t261 t262 bt263.1 bt271.1 1) else (none)) else (none)) else (none)) else (none))) else (none)) else (none)) else (laws_FnSumsOfDigitsRun.j1 k l1)))) else (none))) else (none))) else (none)))))))))) = some r := H
  have A5 := Aside0.mk A50
  clear A50
  replace H := Option.bind_eq_some_iff.mp H
  obtain ⟨⟨t263, t264⟩, A60, H⟩ := H
  replace H : ((spec_SumRun.f k t261 t262).bind fun bt267 => ((impl_SumPersistence.f k t261 t262).bind fun bt271 => ((spec_SumPersistence.f k t261 t262).bind fun bt273 => ((impl_RootByRemainder.f t261 t262).bind fun bt275 => ((spec_RootByRemainder.f t261 t262).bind fun bt277 => (if (t264 != bt267.2) = true then (none) else ((laws_qSame.f k t263 bt267.1).bind fun t279 => (if t279 = true then (if (bt271.2 != bt273.2) = true then (none) else (if bt271.1 = bt273.1 then (if (bt275.2 != bt277.2) = true then (none) else (if bt275.1 = bt277.1 then (if (bt271.2 != t264) = true then (none) else (if (bt275.2 != t264) = true then (none) else (if t264 = true then (if 0 ≤ (wrap64 ((t263.length : Int) - 1)) then (if (wrap64 ((t263.length : Int) - 1)) < (t263.length : Int) then ((impl_DigitalRoot.f k t261 t262).bind fun bt281 => (if (t263.length : Int) = (wrap64 (bt271.1 + 1)) then (if (rd t263 (wrap64 ((t263.length : Int) - 1))) = bt275.1 then (if bt281.2 = true then (if bt281.1 = bt275.1 then (laws_FnSumsOfDigitsRun.l0 k l1 t261 t262 t263 bt271.1 1) else (none)) else (none)) else (none)) else (none))) else (none)) else (none)) else (laws_FnSumsOfDigitsRun.j1 k l1)))) else (none))) else (none))) else (none))))))))) = some r := H
  have A6 := Aside0.mk A60
  clear A60
  replace H := Option.bind_eq_some_iff.mp H
  obtain ⟨⟨t267, t268⟩, A70, H⟩ := H
  replace H : ((impl_SumPersistence.f k t261 t262).bind fun bt271 => ((spec_SumPersistence.f k t261 t262).bind fun bt273 => ((impl_RootByRemainder.f t261 t262).bind fun bt275 => ((spec_RootByRemainder.f t261 t262).bind fun bt277 => (if (t264 != t268) = true then (none) else ((laws_qSame.f k t263 t267).bind fun t279 => (if t279 = true then (if (bt271.2 != bt273.2) = true then (none) else (if bt271.1 = bt273.1 then (if (bt275.2 != bt277.2) = true then (none) else (if bt275.1 = bt277.1 then (if (bt271.2 != t264) = true then (none) else (if (bt275.2 != t264) = true then (none) else (if t264 = true then (if 0 ≤ (wrap64 ((t263.length : Int) - 1)) then (if (wrap64 ((t263.length : Int) - 1)) < (t263.length : Int) then ((impl_DigitalRoot.f k t261 t262).bind fun bt281 => (if (t263.length : Int) = (wrap64 (bt271.1 + 1)) then (if (rd t263 (wrap64 ((t263.length : Int) - 1))) = bt275.1 then (if bt281.2 = true then (if bt281.1 = bt275.1 then (laws_FnSumsOfDigitsRun.l0 k l1 t261 t262 t263 bt271.1 1) else (none)) else (none)) else (none)) else (none))) else (none)) else (none)) else (laws_FnSumsOfDigitsRun.j1 k l1)))) else (none))) else (none))) else (none)))))))) = some r := H
  have A7 := Aside0.mk A70
  clear A70
  replace H := Option.bind_eq_some_iff.mp H
  obtain ⟨⟨t271, t272⟩, A80, H⟩ := H
  replace H : ((spec_SumPersistence.f k t261 t262).bind fun bt273 => ((impl_RootByRemainder.f t261 t262).bind fun bt275 => ((spec_RootByRemainder.f t261 t262).bind fun bt277 => (if (t264 != t268) = true then (none) else ((laws_qSame.f k t263 t267).bind fun t279 => (if t279 = true then (if (t272 != bt273.2) = true then (none) else (if t271 = bt273.1 then (if (bt275.2 != bt277.2) = true then (none) else (if bt275.1 = bt277.1 then (if (t272 != t264) = true then (none) else (if (bt275.2 != t264) = true then (none) else (if t264 = true then (if 0 ≤ (wrap64 ((t263.length : Int) - 1)) then (if (wrap64 ((t263.length : Int) - 1)) < (t263.length : Int) then ((impl_DigitalRoot.f k t261 t262).bind fun bt281 => (if (t263.length : Int) = (wrap64 (t271 + 1)) then (if (rd t263 (wrap64 ((t263.length : Int) - 1))) = bt275.1 then (if bt281.2 = true then (if bt281.1 = bt275.1 then (laws_FnSumsOfDigitsRun.l0 k l1 t261 t262 t263 t271 1) else (none)) else (none)) else (none)) else (none))) else (none)) else (none)) else (laws_FnSumsOfDigitsRun.j1 k l1)))) else (none))) else (none))) else (none))))))) = some r := H
  have A8 := Aside0.mk A80
  clear A80
  replace H := Option.bind_eq_some_iff.mp H
  obtain ⟨⟨t273, t274⟩, A90, H⟩ := H
  replace H : ((impl_RootByRemainder.f t261 t262).bind fun bt275 => ((spec_RootByRemainder.f t261 t262).bind fun bt277 => (if (t264 != t268) = true then (none) else ((laws_qSame.f k t263 t267).bind fun t279 => (if t279 = true then (if (t272 != t274) = true then (none) else (if t271 = t273 then (if (bt275.2 != bt277.2) = true then (none) else (if bt275.1 = bt277.1 then (if (t272 != t264) = true then (none) else (if (bt275.2 != t264) = true then (none) else (if t264 = true then (if 0 ≤ (wrap64 ((t263.length : Int) - 1)) then (if (wrap64 ((t263.length : Int) - 1)) < (t263.length : Int) then ((impl_DigitalRoot.f k t261 t262).bind fun bt281 => (if (t263.length : Int) = (wrap64 (t271 + 1)) then (if (rd t263 (wrap64 ((t263.length : Int) - 1))) = bt275.1 then (if bt281.2 = true then (if bt281.1 = bt275.1 then (laws_FnSumsOfDigitsRun.l0 k l1 t261 t262 t263 t271 1) else (none)) else (none)) else (none)) else (none))) else (none)) else (none)) else (laws_FnSumsOfDigitsRun.j1 k l1)))) else (none))) else (none))) else (none)))))) = some r := H
  have A9 := Aside0.mk A90
  clear A90
  replace H := Option.bind_eq_some_iff.mp H
  obtain ⟨⟨t275, t276⟩, A100, H⟩ := H
  replace H : ((spec_RootByRemainder.f t261 t262).bind fun bt277 => (if (t264 != t268) = true then (none) else ((laws_qSame.f k t263 t267).bind fun t279 => (if t279 = true then (if (t272 != t274) = true then (none) else (if t271 = t273 then (if (t276 != bt277.2) = true then (none) else (if t275 = bt277.1 then (if (t272 != t264) = true then (none) else (if (t276 != t264) = true then (none) else (if t264 = true then (if 0 ≤ (wrap64 ((t263.length : Int) - 1)) then (if (wrap64 ((t263.length : Int) - 1)) < (t263.length : Int) then ((impl_DigitalRoot.f k t261 t262).bind fun bt281 => (if (t263.length : Int) = (wrap64 (t271 + 1)) then (if (rd t263 (wrap64 ((t263.length : Int) - 1))) = t275 then (if bt281.2 = true then (if bt281.1 = t275 then (laws_FnSumsOfDigitsRun.l0 k l1 t261 t262 t263 t271 1) else (none)) else (none)) else (none)) else (none))) else (none)) else (none)) else (laws_FnSumsOfDigitsRun.j1 k l1)))) else (none))) else (none))) else (none))))) = some r := H
  have A10 := Aside0.mk A100
  clear A100
  replace H := Option.bind_eq_some_iff.mp H
  obtain ⟨⟨t277, t278⟩, A110, H⟩ := H
  replace H : (if (t264 != t268) = true then (none) else ((laws_qSame.f k t263 t267).bind fun t279 => (if t279 = true then (if (t272 != t274) = true then (none) else (if t271 = t273 then (if (t276 != t278) = true then (none) else (if t275 = t277 then (if (t272 != t264) = true then (none) else (if (t276 != t264) = true then (none) else (if t264 = true then (if 0 ≤ (wrap64 ((t263.length : Int) - 1)) then (if (wrap64 ((t263.length : Int) - 1)) < (t263.length : Int) then ((impl_DigitalRoot.f k t261 t262).bind fun bt281 => (if (t263.length : Int) = (wrap64 (t271 + 1)) then (if (rd t263 (wrap64 ((t263.length : Int) - 1))) = t275 then (if bt281.2 = true then (if bt281.1 = t275 then (laws_FnSumsOfDigitsRun.l0 k l1 t261 t262 t263 t271 1) else (none)) else (none)) else (none)) else (none))) else (none)) else (none)) else (laws_FnSumsOfDigitsRun.j1 k l1)))) else (none))) else (none))) else (none)))) = some r := H
  have A11 := Aside0.mk A110
  clear A110
  by_cases c12 : (t264 != t268) = true
  ·rw [if_pos c12] at H
   exact absurd H (by simp)
  ·rw [if_neg c12] at H
   have c12b0 : (t264 != t268) = false := by simpa using c12
   (try (have c12b1 : decide (t264 = t268) = true := by simpa using c12))
   (try (have c12b2 : (t264 == t268) = true := by simpa using c12))
   clear c12
   replace H := Option.bind_eq_some_iff.mp H
   obtain ⟨t279, A130, H⟩ := H
   replace H : (if t279 = true then (if (t272 != t274) = true then (none) else (if t271 = t273 then (if (t276 != t278) = true then (none) else (if t275 = t277 then (if (t272 != t264) = true then (none) else (if (t276 != t264) = true then (none) else (if t264 = true then (if 0 ≤ (wrap64 ((t263.length : Int) - 1)) then (if (wrap64 ((t263.length : Int) - 1)) < (t263.length : Int) then ((impl_DigitalRoot.f k t261 t262).bind fun bt281 => (if (t263.length : Int) = (wrap64 (t271 + 1)) then (if (rd t263 (wrap64 ((t263.length : Int) - 1))) = t275 then (if bt281.2 = true then (if bt281.1 = t275 then (laws_FnSumsOfDigitsRun.l0 k l1 t261 t262 t263 t271 1) else (none)) else (none)) else (none)) else (none))) else (none)) else (none)) else (laws_FnSumsOfDigitsRun.j1 k l1)))) else (none))) else (none))) else (none)) = some r := H
   have A13 := Aside0.mk A130
   clear A130
   by_cases c14 : t279 = true
   ·subst c14
    have H1 : (if (t272 != t274) = true then (none) else (if t271 = t273 then (if (t276 != t278) = true then (none) else (if t275 = t277 then (if (t272 != t264) = true then (none) else (if (t276 != t264) = true then (none) else (if t264 = true then (if 0 ≤ (wrap64 ((t263.length : Int) - 1)) then (if (wrap64 ((t263.length : Int) - 1)) < (t263.length : Int) then ((impl_DigitalRoot.f k t261 t262).bind fun bt281 => (if (t263.length : Int) = (wrap64 (t271 + 1)) then (if (rd t263 (wrap64 ((t263.length : Int) - 1))) = t275 then (if bt281.2 = true then (if bt281.1 = t275 then (laws_FnSumsOfDigitsRun.l0 k l1 t261 t262 t263 t271 1) else (none)) else (none)) else (none)) else (none))) else (none)) else (none)) else (laws_FnSumsOfDigitsRun.j1 k l1)))) else (none))) else (none))) = some r := by rw [if_pos rfl] at H; exact H
    clear H
    have H := H1
    clear H1
    by_cases c15 : (t272 != t274) = true
    ·rw [if_pos c15] at H
     exact absurd H (by simp)
    ·rw [if_neg c15] at H
     have c15b0 : (t272 != t274) = false := by simpa using c15
     (try (have c15b1 : decide (t272 = t274) = true := by simpa using c15))
     (try (have c15b2 : (t272 == t274) = true := by simpa using c15))
     clear c15
     by_cases c16 : t271 = t273
     ·rw [if_pos c16] at H
      have c16b0 : (t271 == t273) = true := beq_iff_eq.mpr c16
      have c16b1 : (t271 != t273) = false := bne_eq_false_iff_eq.mpr c16
      clear c16
      by_cases c17 : (t276 != t278) = true
      ·rw [if_pos c17] at H
       exact absurd H (by simp)
      ·rw [if_neg c17] at H
       have c17b0 : (t276 != t278) = false := by simpa using c17
       (try (have c17b1 : decide (t276 = t278) = true := by simpa using c17))
       (try (have c17b2 : (t276 == t278) = true := by simpa using c17))
       clear c17
       by_cases c18 : t275 = t277
       ·rw [if_pos c18] at H
        have c18b0 : (t275 == t277) = true := beq_iff_eq.mpr c18
        have c18b1 : (t275 != t277) = false := bne_eq_false_iff_eq.mpr c18
        clear c18
        by_cases c19 : (t272 != t264) = true
        ·rw [if_pos c19] at H
         exact absurd H (by simp)
        ·rw [if_neg c19] at H
         have c19b0 : (t272 != t264) = false := by simpa using c19
         (try (have c19b1 : decide (t272 = t264) = true := by simpa using c19))
         (try (have c19b2 : (t272 == t264) = true := by simpa using c19))
         clear c19
         by_cases c20 : (t276 != t264) = true
         ·rw [if_pos c20] at H
          exact absurd H (by simp)
         ·rw [if_neg c20] at H
          have c20b0 : (t276 != t264) = false := by simpa using c20
          (try (have c20b1 : decide (t276 = t264) = true := by simpa using c20))
          (try (have c20b2 : (t276 == t264) = true := by simpa using c20))
          clear c20
          have HC21 := Aside0.mk H
          clear H
          go_enter Try.func3, Try.ntmps3
          go_upto_if 118 with (first | ((with_reducible refine gate_callee (f := 9) rfl ?_); refine goesL_ (some 37) rfl rfl Try.func9 (by kernel_rfl) rfl #[.slice A0 l0.length c0, .slice A1 l1.length c1] rfl (by (try simp only [List.map_toArray, List.map_cons, List.map_nil]); first | done | rfl | (simp only [List.length_drop, List.length_take]; rfl)) ?_; (with_reducible refine (laws_big.calls _ _ l0 _ _ l1 false _ ?side1 ?side2 ?side3 ?side4 A3.out).mono ?_); (case side1 => repeat (first | exact HR0.out | (with_reducible refine Kd.C_alloc ?_ _) | (with_reducible refine Kd.C_drewN ?_ _) | (with_reducible refine Kd.C_drew ?_))); (case side2 => exact HC0.out); (case side3 => repeat (first | exact HR1.out | (with_reducible refine Kd.C_alloc ?_ _) | (with_reducible refine Kd.C_drewN ?_ _) | (with_reducible refine Kd.C_drew ?_))); (case side4 => exact HC1.out); rintro e w' ⟨rfl, ⟨nd, rfl⟩⟩; refine ⟨_, rfl, ?_⟩) | ((with_reducible refine gate_callee (f := 10) rfl ?_); refine goesL_ (some 40) rfl rfl Try.func10 (by kernel_rfl) rfl #[.slice A0 l0.length c0] rfl (by (try simp only [List.map_toArray, List.map_cons, List.map_nil]); first | done | rfl | (simp only [List.length_drop, List.length_take]; rfl)) ?_; (with_reducible refine (spec_DrawSumRun.calls k _ _ l0 t261 t262 _ ?side1 ?side2 A5.out).mono ?_); (case side1 => repeat (first | exact HR0.out | (with_reducible refine Kd.C_alloc ?_ _) | (with_reducible refine Kd.C_drewN ?_ _) | (with_reducible refine Kd.C_drew ?_))); (case side2 => exact HC0.out); rintro e w22 ⟨rfl, hb⟩; refine ⟨_, rfl, ?_⟩; have n0_ := Aside0.mk (below_step (by repeat (first | (with_reducible first | exact HB.out | apply below_alloc | apply pw_below_drewN | apply below_drew1) | exact HB.out)) hb); clear HB; have HB := n0_; clear n0_; (try clear hb); (try clear hb2); (try clear hk); (try clear hi)) | ((with_reducible refine gate_callee (f := 11) rfl ?_); refine goesL_ (some 46) rfl rfl Try.func11 (by kernel_rfl) rfl #[.int .i64 t261, .int .i64 t262] rfl (by (try simp only [List.map_toArray, List.map_cons, List.map_nil]); first | done | rfl | (simp only [List.length_drop, List.length_take]; rfl)) ?_; (with_reducible refine (impl_SumRun.calls k t261 t262 t263 t264 _ A6.out).mono ?_); rintro e w23 ⟨v265, rfl, ho0, hb⟩; refine ⟨_, rfl, ?_⟩; have n0_ := Aside0.mk (Kd.R_lower ho0 (below_size (by repeat (first | (with_reducible first | exact HB.out | apply below_alloc | apply pw_below_drewN | apply below_drew1) | exact HB.out)))); have n1_ := Aside0.mk (below_step (by repeat (first | (with_reducible first | exact HB.out | apply below_alloc | apply pw_below_drewN | apply below_drew1) | exact HB.out)) hb); clear HB; have HO266 := n0_; have HB := n1_; clear n0_ n1_; (try clear hb); (try clear hb2); (try clear hk); (try clear hi); (try clear ho0)) | ((with_reducible refine gate_callee (f := 12) rfl ?_); refine goesL_ (some 52) rfl rfl Try.func12 (by kernel_rfl) rfl #[.int .i64 t261, .int .i64 t262] rfl (by (try simp only [List.map_toArray, List.map_cons, List.map_nil]); first | done | rfl | (simp only [List.length_drop, List.length_take]; rfl)) ?_; (with_reducible refine (spec_SumRun.calls k t261 t262 t267 t268 _ A7.out).mono ?_); rintro e w24 ⟨v269, rfl, ho0, hb⟩; refine ⟨_, rfl, ?_⟩; have n0_ := Aside0.mk (Kd.R_elder' (by (with_reducible repeat (first | apply Kd.R_alloc | apply Kd.R_drewN | apply Kd.R_drew)); exact HO266.out) (Kd.R_base ho0) hb); have n1_ := Aside0.mk (Kd.R_lower (Kd.R_new' ho0 (Kd.R_lt (by (with_reducible repeat (first | apply Kd.R_alloc | apply Kd.R_drewN | apply Kd.R_drew)); exact HO266.out))) (below_size (by repeat (first | (with_reducible first | exact HB.out | apply below_alloc | apply pw_below_drewN | apply below_drew1) | exact HB.out)))); have n2_ := Aside0.mk (below_step (by repeat (first | (with_reducible first | exact HB.out | apply below_alloc | apply pw_below_drewN | apply below_drew1) | exact HB.out)) hb); clear HO266; clear HB; have HO266 := n0_; have HO270 := n1_; have HB := n2_; clear n0_ n1_ n2_; (try clear hb); (try clear hb2); (try clear hk); (try clear hi); (try clear ho0)) | ((with_reducible refine gate_callee (f := 13) rfl ?_); refine goesL_ (some 58) rfl rfl Try.func13 (by kernel_rfl) rfl #[.int .i64 t261, .int .i64 t262] rfl (by (try simp only [List.map_toArray, List.map_cons, List.map_nil]); first | done | rfl | (simp only [List.length_drop, List.length_take]; rfl)) ?_; (with_reducible refine (impl_SumPersistence.calls k t261 t262 t271 t272 _ A8.out).mono ?_); rintro e w25 ⟨rfl, hb⟩; refine ⟨_, rfl, ?_⟩; have n0_ := Aside0.mk (Kd.R_below (by (with_reducible repeat (first | apply Kd.R_alloc | apply Kd.R_drewN | apply Kd.R_drew)); exact HO266.out) hb); have n1_ := Aside0.mk (Kd.R_below (by (with_reducible repeat (first | apply Kd.R_alloc | apply Kd.R_drewN | apply Kd.R_drew)); exact HO270.out) hb); have n2_ := Aside0.mk (below_step (by repeat (first | (with_reducible first | exact HB.out | apply below_alloc | apply pw_below_drewN | apply below_drew1) | exact HB.out)) hb); clear HO266; clear HO270; clear HB; have HO266 := n0_; have HO270 := n1_; have HB := n2_; clear n0_ n1_ n2_; (try clear hb); (try clear hb2); (try clear hk); (try clear hi)) | ((with_reducible refine gate_callee (f := 14) rfl ?_); refine goesL_ (some 64) rfl rfl Try.func14 (by kernel_rfl) rfl #[.int .i64 t261, .int .i64 t262] rfl (by (try simp only [List.map_toArray, List.map_cons, List.map_nil]); first | done | rfl | (simp only [List.length_drop, List.length_take]; rfl)) ?_; (with_reducible refine (spec_SumPersistence.calls k t261 t262 t273 t274 _ A9.out).mono ?_); rintro e w26 ⟨rfl, hb⟩; refine ⟨_, rfl, ?_⟩; have n0_ := Aside0.mk (Kd.R_below (by (with_reducible repeat (first | apply Kd.R_alloc | apply Kd.R_drewN | apply Kd.R_drew)); exact HO266.out) hb); have n1_ := Aside0.mk (Kd.R_below (by (with_reducible repeat (first | apply Kd.R_alloc | apply Kd.R_drewN | apply Kd.R_drew)); exact HO270.out) hb); have n2_ := Aside0.mk (below_step (by repeat (first | (with_reducible first | exact HB.out | apply below_alloc | apply pw_below_drewN | apply below_drew1) | exact HB.out)) hb); clear HO266; clear HO270; clear HB; have HO266 := n0_; have HO270 := n1_; have HB := n2_; clear n0_ n1_ n2_; (try clear hb); (try clear hb2); (try clear hk); (try clear hi)) | ((with_reducible refine gate_callee (f := 15) rfl ?_); refine goesL_ (some 70) rfl rfl Try.func15 (by kernel_rfl) rfl #[.int .i64 t261, .int .i64 t262] rfl (by (try simp only [List.map_toArray, List.map_cons, List.map_nil]); first | done | rfl | (simp only [List.length_drop, List.length_take]; rfl)) ?_; (with_reducible refine (impl_RootByRemainder.calls t261 t262 t275 t276 _ A10.out).mono ?_); rintro e w' ⟨rfl, ⟨nd, rfl⟩⟩; refine ⟨_, rfl, ?_⟩) | ((with_reducible refine gate_callee (f := 16) rfl ?_); refine goesL_ (some 76) rfl rfl Try.func16 (by kernel_rfl) rfl #[.int .i64 t261, .int .i64 t262] rfl (by (try simp only [List.map_toArray, List.map_cons, List.map_nil]); first | done | rfl | (simp only [List.length_drop, List.length_take]; rfl)) ?_; (with_reducible refine (spec_RootByRemainder.calls t261 t262 t277 t278 _ A11.out).mono ?_); rintro e w' ⟨rfl, ⟨nd, rfl⟩⟩; refine ⟨_, rfl, ?_⟩; obtain ⟨Ao27, co27, eo27⟩ := Kd.R_slice HO266.out; subst eo27; obtain ⟨Ao28, co28, eo28⟩ := Kd.R_slice HO270.out; subst eo28) | (go_at_call 17; (with_reducible refine (laws_qSame.calls k _ _ t263 _ _ t267 true _ ?side1 ?side2 ?side3 ?side4 A13.out).mono ?_); (case side1 => repeat (first | exact (Kd.R_reads' HO266.out).2.2 | (with_reducible refine Kd.C_alloc ?_ _) | (with_reducible refine Kd.C_drewN ?_ _) | (with_reducible refine Kd.C_drew ?_))); (case side2 => exact (Kd.R_reads' HO266.out).2.1); (case side3 => repeat (first | exact (Kd.R_reads' HO270.out).2.2 | (with_reducible refine Kd.C_alloc ?_ _) | (with_reducible refine Kd.C_drewN ?_ _) | (with_reducible refine Kd.C_drew ?_))); (case side4 => exact (Kd.R_reads' HO270.out).2.1); rintro e w' ⟨rfl, ⟨nd, rfl⟩⟩))
          (try simp only [Act.put, List.setIfInBounds_toArray, List.set_cons_zero, List.set_cons_succ])
          go_cut [] (fun wc => ∃ (kq : Nat), Aside0 (laws_FnSumsOfDigitsRun.j1 kq l1 = some r) ∧ Aside0 (kq ≤ k) ∧ Aside0 (Below w.heap.size w wc))
          case first =>
           have H := HC21.out
           clear HC21
           by_cases c29 : t264 = true
           ·subst c29
            have H1 : (if 0 ≤ (wrap64 ((t263.length : Int) - 1)) then (if (wrap64 ((t263.length : Int) - 1)) < (t263.length : Int) then ((impl_DigitalRoot.f k t261 t262).bind fun bt281 => (if (t263.length : Int) = (wrap64 (t271 + 1)) then (if (rd t263 (wrap64 ((t263.length : Int) - 1))) = t275 then (if bt281.2 = true then (if bt281.1 = t275 then (laws_FnSumsOfDigitsRun.l0 k l1 t261 t262 t263 t271 1) else (none)) else (none)) else (none)) else (none))) else (none)) else (none)) = some r := by rw [if_pos rfl] at H; exact H
            clear H
            have H := H1
            clear H1
            obtain ⟨ji30, hji30⟩ : ∃ j_ : Int, (wrap64 ((t263.length : Int) - 1)) = j_ := ⟨_, rfl⟩
            replace H : (if 0 ≤ (ji30) then (if (ji30) < (t263.length : Int) then ((impl_DigitalRoot.f k t261 t262).bind fun bt281 => (if (t263.length : Int) = (wrap64 (t271 + 1)) then (if (rd t263 (ji30)) = t275 then (if bt281.2 = true then (if bt281.1 = t275 then (laws_FnSumsOfDigitsRun.l0 k l1 t261 t262 t263 t271 1) else (none)) else (none)) else (none)) else (none))) else (none)) else (none)) = some r := by first | (rw [hji30] at H; exact H) | (simp only [hji30] at H ⊢; exact H)
            have hji30w : (IntKind.i64.wrap ((t263.length : Int) - 1)) = ji30 := (i64_w _).trans hji30
            by_cases c31 : 0 ≤ (ji30)
            ·rw [if_pos c31] at H
             have c31b0 : decide (0 ≤ (ji30)) = true := decide_eq_true c31
             clear c31
             (first | rw [c31b0] | (simp only [i64_w, i32_w]; rw [c31b0]) | skip)
             by_cases c32 : (ji30) < (t263.length : Int)
             ·rw [if_pos c32] at H
              have c32b0 : decide ((ji30) < (t263.length : Int)) = true := decide_eq_true c32
              clear c32
              replace H := Option.bind_eq_some_iff.mp H
              obtain ⟨⟨t281, t282⟩, A330, H⟩ := H
              replace H : (if (t263.length : Int) = (wrap64 (t271 + 1)) then (if (rd t263 (ji30)) = t275 then (if t282 = true then (if t281 = t275 then (laws_FnSumsOfDigitsRun.l0 k l1 t261 t262 t263 t271 1) else (none)) else (none)) else (none)) else (none)) = some r := H
              have A33 := Aside0.mk A330
              clear A330
              by_cases c34 : (t263.length : Int) = (wrap64 (t271 + 1))
              ·rw [if_pos c34] at H
               have c34b0 : ((t263.length : Int) == (wrap64 (t271 + 1))) = true := beq_iff_eq.mpr c34
               have c34b1 : ((t263.length : Int) != (wrap64 (t271 + 1))) = false := bne_eq_false_iff_eq.mpr c34
               clear c34
               by_cases c35 : (rd t263 (ji30)) = t275
               ·rw [if_pos c35] at H
                have c35b0 : ((rd t263 (ji30)) == t275) = true := beq_iff_eq.mpr c35
                have c35b1 : ((rd t263 (ji30)) != t275) = false := bne_eq_false_iff_eq.mpr c35
                clear c35
                by_cases c36 : t282 = true
                ·subst c36
                 have H1 : (if t281 = t275 then (laws_FnSumsOfDigitsRun.l0 k l1 t261 t262 t263 t271 1) else (none)) = some r := by rw [if_pos rfl] at H; exact H
                 clear H
                 have H := H1
                 clear H1
                 by_cases c37 : t281 = t275
                 ·rw [if_pos c37] at H
                  have c37b0 : (t281 == t275) = true := beq_iff_eq.mpr c37
                  have c37b1 : (t281 != t275) = false := bne_eq_false_iff_eq.mpr c37
                  clear c37
                  have H' := Aside0.mk H
                  clear H
                  have p280 : 0 ≤ ((ji30) : Int) := of_decide_eq_true (by first | (with_reducible assumption) | assumption)
                  have q280 : (ji30) < (t263.length : Int) := of_decide_eq_true (by first | (with_reducible assumption) | assumption)
                  obtain ⟨ad280, e280, hx280_0⟩ := Kd.at_int (Kd.R_reads' HO266.out).2.2 (ji30) p280 q280
                  cases e280
                  replace p280 := eq_true p280
                  replace q280 := eq_true q280
                  go_wp2_with (first | ((with_reducible refine gate_callee (f := 18) rfl ?_); refine goesL_ (some 128) rfl rfl Try.func18 (by kernel_rfl) rfl #[.int .i64 t261, .int .i64 t262] rfl (by (try simp only [List.map_toArray, List.map_cons, List.map_nil]); first | done | rfl | (simp only [List.length_drop, List.length_take]; rfl)) ?_; (with_reducible refine (impl_DigitalRoot.calls k t261 t262 t281 true _ A33.out).mono ?_); rintro e w38 ⟨rfl, hb⟩; refine ⟨_, rfl, ?_⟩; have n0_ := Aside0.mk (Kd.R_below (by (with_reducible repeat (first | apply Kd.R_alloc | apply Kd.R_drewN | apply Kd.R_drew)); exact HO266.out) hb); have n1_ := Aside0.mk (Kd.R_below (by (with_reducible repeat (first | apply Kd.R_alloc | apply Kd.R_drewN | apply Kd.R_drew)); exact HO270.out) hb); have n2_ := Aside0.mk (below_step (by repeat (first | (with_reducible first | exact HB.out | apply below_alloc | apply pw_below_drewN | apply below_drew1) | exact HB.out)) hb); clear HO266; clear HO270; clear HB; have HO266 := n0_; have HO270 := n1_; have HB := n2_; clear n0_ n1_ n2_; (try clear hb); (try clear hb2); (try clear hk); (try clear hi)))
                  go_loopg [22] k (fun kq v22 w' => ∃ (x22_1 : Int), v22 = .int .i64 x22_1 ∧ Aside0 (laws_FnSumsOfDigitsRun.l0 kq l1 t261 t262 t263 t271 x22_1 = some r) ∧ Aside0 (kq ≤ k) ∧ Aside0 (Kd.R (Kd.int .i64) 3 w' w.heap.size (fun _ => True) (.slice (some ad280) t263.length co27) t263) ∧ Aside0 (Below w.heap.size w w'))
                  case atStart => exact ⟨(1), (by first | rfl | (simp; done) | (simp [*]; done)), H', ⟨Nat.le_refl _⟩, ⟨by (with_reducible repeat (first | apply Kd.R_alloc | apply Kd.R_drewN | apply Kd.R_drew)); exact Kd.R_mono HO266.out (fun _ hk => trivial)⟩, ⟨by repeat (first | (with_reducible first | exact HB.out | apply below_alloc | apply pw_below_drewN | apply below_drew1) | exact HB.out)⟩⟩
                  case round =>
                   clear H'
                   try clear c1
                   try clear c2
                   try clear p2
                   try clear q2
                   try clear hx2
                   try clear c3
                   try clear c4
                   try clear p6
                   try clear c9
                   try clear c10
                   try clear c11
                   try clear c12
                   try clear c12b0
                   try clear c12b1
                   try clear c12b2
                   try clear c13
                   try clear c14
                   try clear c15
                   try clear c15b0
                   try clear c15b1
                   try clear c15b2
                   try clear c16
                   try clear c16b0
                   try clear c16b1
                   try clear c17
                   try clear c17b0
                   try clear c17b1
                   try clear c17b2
                   try clear c18
                   try clear c18b0
                   try clear c18b1
                   try clear c19
                   try clear c19b0
                   try clear c19b1
                   try clear c19b2
                   try clear c20
                   try clear c20b0
                   try clear c20b1
                   try clear c20b2
                   try clear p28
                   try clear q28
                   try clear hx28
                   try clear c29
                   try clear c31
                   try clear c31b0
                   try clear c32
                   try clear c32b0
                   try clear c34
                   try clear c34b0
                   try clear c34b1
                   try clear c35
                   try clear c35b0
                   try clear c35b1
                   try clear c36
                   try clear c37
                   try clear c37b0
                   try clear c37b1
                   try clear hx280_0
                   try clear p280
                   try clear q280
                   obtain ⟨x22_1, rfl, HA, HK1, HO_7, HB⟩ := hrel
                   cases gk with
                   | zero => exact absurd HA.out (by simp [laws_FnSumsOfDigitsRun.l0])
                   | succ k1 =>
                    have H := HA.out
                    clear HA
                    simp only [laws_FnSumsOfDigitsRun.l0] at H
                    by_cases c39 : x22_1 < (t263.length : Int)
                    ·rw [if_pos c39] at H
                     have c39b0 : decide (x22_1 < (t263.length : Int)) = true := decide_eq_true c39
                     clear c39
                     obtain ⟨ji40, hji40⟩ : ∃ j_ : Int, (wrap64 (x22_1 - 1)) = j_ := ⟨_, rfl⟩
                     replace H : (if 0 ≤ (ji40) then (if (ji40) < (t263.length : Int) then ((impl_DigitSum.f k1 (rd t263 (ji40)) t262).bind fun bt284 => (if bt284.2 = true then (if 0 ≤ x22_1 then (if bt284.1 = (rd t263 x22_1) then (if bt284.1 ≥ (rd t263 (ji40)) then (none) else (if (wrap64 (t262 - 1)) = 0 then (none) else (if (Int.tmod (wrap64 ((rd t263 (ji40)) - bt284.1)) (wrap64 (t262 - 1))) = 0 then (laws_FnSumsOfDigitsRun.l0 k1 l1 t261 t262 t263 t271 (wrap64 (x22_1 + 1))) else (none)))) else (none)) else (none)) else (none))) else (none)) else (none)) = some r := by first | (rw [hji40] at H; exact H) | (simp only [hji40] at H ⊢; exact H)
                     have hji40w : (IntKind.i64.wrap (x22_1 - 1)) = ji40 := (i64_w _).trans hji40
                     by_cases c41 : 0 ≤ (ji40)
                     ·rw [if_pos c41] at H
                      have c41b0 : decide (0 ≤ (ji40)) = true := decide_eq_true c41
                      clear c41
                      by_cases c42 : (ji40) < (t263.length : Int)
                      ·rw [if_pos c42] at H
                       have c42b0 : decide ((ji40) < (t263.length : Int)) = true := decide_eq_true c42
                       clear c42
                       replace H := Option.bind_eq_some_iff.mp H
                       obtain ⟨⟨t284, t285⟩, A430, H⟩ := H
                       replace H : (if t285 = true then (if 0 ≤ x22_1 then (if t284 = (rd t263 x22_1) then (if t284 ≥ (rd t263 (ji40)) then (none) else (if (wrap64 (t262 - 1)) = 0 then (none) else (if (Int.tmod (wrap64 ((rd t263 (ji40)) - t284)) (wrap64 (t262 - 1))) = 0 then (laws_FnSumsOfDigitsRun.l0 k1 l1 t261 t262 t263 t271 (wrap64 (x22_1 + 1))) else (none)))) else (none)) else (none)) else (none)) = some r := H
                       have A43 := Aside0.mk A430
                       clear A430
                       by_cases c44 : t285 = true
                       ·subst c44
                        have H1 : (if 0 ≤ x22_1 then (if t284 = (rd t263 x22_1) then (if t284 ≥ (rd t263 (ji40)) then (none) else (if (wrap64 (t262 - 1)) = 0 then (none) else (if (Int.tmod (wrap64 ((rd t263 (ji40)) - t284)) (wrap64 (t262 - 1))) = 0 then (laws_FnSumsOfDigitsRun.l0 k1 l1 t261 t262 t263 t271 (wrap64 (x22_1 + 1))) else (none)))) else (none)) else (none)) = some r := by rw [if_pos rfl] at H; exact H
                        clear H
                        have H := H1
                        clear H1
                        by_cases c45 : 0 ≤ x22_1
                        ·rw [if_pos c45] at H
                         have c45b0 : decide (0 ≤ x22_1) = true := decide_eq_true c45
                         clear c45
                         by_cases c46 : t284 = (rd t263 x22_1)
                         ·rw [if_pos c46] at H
                          have c46b0 : (t284 == (rd t263 x22_1)) = true := beq_iff_eq.mpr c46
                          have c46b1 : (t284 != (rd t263 x22_1)) = false := bne_eq_false_iff_eq.mpr c46
                          clear c46
                          by_cases c47 : t284 ≥ (rd t263 (ji40))
                          ·rw [if_pos c47] at H
                           exact absurd H (by simp)
                          ·rw [if_neg c47] at H
                           have c47b0 : decide ((rd t263 (ji40)) ≤ t284) = false := decide_eq_false c47
                           clear c47
                           by_cases c48 : (wrap64 (t262 - 1)) = 0
                           ·rw [if_pos c48] at H
                            exact absurd H (by simp)
                           ·rw [if_neg c48] at H
                            have c48b0 : ((wrap64 (t262 - 1)) == 0) = false := beq_eq_false_iff_ne.mpr c48
                            have c48b1 : ((wrap64 (t262 - 1)) != 0) = true := bne_iff_ne.mpr c48
                            by_cases c49 : (Int.tmod (wrap64 ((rd t263 (ji40)) - t284)) (wrap64 (t262 - 1))) = 0
                            ·rw [if_pos c49] at H
                             have c49b0 : ((Int.tmod (wrap64 ((rd t263 (ji40)) - t284)) (wrap64 (t262 - 1))) == 0) = true := beq_iff_eq.mpr c49
                             have c49b1 : ((Int.tmod (wrap64 ((rd t263 (ji40)) - t284)) (wrap64 (t262 - 1))) != 0) = false := bne_eq_false_iff_eq.mpr c49
                             clear c49
                             as_aux_lemma =>
                              have H' := Aside0.mk H
                              clear H
                              have p283 : 0 ≤ ((ji40) : Int) := of_decide_eq_true (by first | (with_reducible assumption) | assumption)
                              have q283 : (ji40) < (t263.length : Int) := of_decide_eq_true (by first | (with_reducible assumption) | assumption)
                              obtain ⟨ad283, e283, hx283_0⟩ := Kd.at_int (Kd.R_reads' HO_7.out).2.2 (ji40) p283 q283
                              obtain rfl : ad280 = ad283 := (by injection e283)
                              replace p283 := eq_true p283
                              replace q283 := eq_true q283
                              go_wp2_with (first | ((with_reducible refine gate_callee (f := 19) rfl ?_); refine goesL_ (some 163) rfl rfl Try.func19 (by kernel_rfl) rfl #[.int .i64 (rd t263 (ji40)), .int .i64 t262] rfl (by (try simp only [List.map_toArray, List.map_cons, List.map_nil]); first | done | (simp only [hji40]; rfl) | rfl | (simp only [List.length_drop, List.length_take]; rfl)) ?_; (with_reducible refine (impl_DigitSum.calls k1 (rd t263 (ji40)) t262 t284 true _ A43.out).mono ?_); rintro e w50 ⟨rfl, hb⟩; refine ⟨_, rfl, ?_⟩; have n0_ := Aside0.mk (Kd.R_below (by (with_reducible repeat (first | apply Kd.R_alloc | apply Kd.R_drewN | apply Kd.R_drew)); exact HO_7.out) hb); have n1_ := Aside0.mk (below_step (by repeat (first | (with_reducible first | exact HB.out | apply below_alloc | apply pw_below_drewN | apply below_drew1) | exact HB.out)) hb); clear HO_7; clear HB; have HO_7 := n0_; have HB := n1_; clear n0_ n1_; (try clear hb); (try clear hb2); (try clear hk); (try clear hi); have p286 : 0 ≤ (x22_1 : Int) := of_decide_eq_true (by first | (with_reducible assumption) | assumption); have q286 : x22_1 < (t263.length : Int) := of_decide_eq_true (by first | (with_reducible assumption) | assumption); obtain ⟨ad286, e286, hx286_0⟩ := Kd.at_int (Kd.R_reads' HO_7.out).2.2 x22_1 p286 q286; obtain rfl : ad280 = ad286 := (by injection e286); replace p286 := eq_true p286; replace q286 := eq_true q286; have p287 : 0 ≤ ((ji40) : Int) := of_decide_eq_true (by first | (with_reducible assumption) | assumption); have q287 : (ji40) < (t263.length : Int) := of_decide_eq_true (by first | (with_reducible assumption) | assumption); obtain ⟨ad287, e287, hx287_0⟩ := Kd.at_int (Kd.R_reads' HO_7.out).2.2 (ji40) p287 q287; obtain rfl : ad280 = ad287 := (by injection e287); replace p287 := eq_true p287; replace q287 := eq_true q287; have p288 : 0 ≤ ((ji40) : Int) := of_decide_eq_true (by first | (with_reducible assumption) | assumption); have q288 : (ji40) < (t263.length : Int) := of_decide_eq_true (by first | (with_reducible assumption) | assumption); obtain ⟨ad288, e288, hx288_0⟩ := Kd.at_int (Kd.R_reads' HO_7.out).2.2 (ji40) p288 q288; obtain rfl : ad280 = ad288 := (by injection e288); replace p288 := eq_true p288; replace q288 := eq_true q288))
                              go_roundg k1
                              case measure => have := HK1.out; omega
                              case rel => exact ⟨(wrap64 (x22_1 + 1)), (by first | rfl | (simp; done) | (simp [*]; done)), H', ⟨by have := HK1.out; omega⟩, ⟨by (with_reducible repeat (first | apply Kd.R_alloc | apply Kd.R_drewN | apply Kd.R_drew)); exact HO_7.out⟩, ⟨by repeat (first | (with_reducible first | exact HB.out | apply below_alloc | apply pw_below_drewN | apply below_drew1) | exact HB.out)⟩⟩
                            ·rw [if_neg c49] at H
                             exact absurd H (by simp)
                         ·rw [if_neg c46] at H
                          exact absurd H (by simp)
                        ·rw [if_neg c45] at H
                         exact absurd H (by simp)
                       ·replace c44 := Bool.eq_false_iff.mpr c44
                        subst c44
                        have H1 : (none) = some r := by rw [if_neg (show ¬ (false = true) by decide)] at H; exact H
                        clear H
                        have H := H1
                        clear H1
                        exact absurd H (by simp)
                      ·rw [if_neg c42] at H
                       exact absurd H (by simp)
                     ·rw [if_neg c41] at H
                      exact absurd H (by simp)
                    ·rw [if_neg c39] at H
                     have c39b0 : decide (x22_1 < (t263.length : Int)) = false := decide_eq_false c39
                     clear c39
                     replace H := Option.bind_eq_some_iff.mp H
                     obtain ⟨⟨t289, t290⟩, A510, H⟩ := H
                     replace H : (if t290 = true then (if t261 < t289 then (none) else (laws_FnSumsOfDigitsRun.j1 k1 l1)) else (laws_FnSumsOfDigitsRun.j1 k1 l1)) = some r := H
                     have A51 := Aside0.mk A510
                     clear A510
                     by_cases c52 : t290 = true
                     ·subst c52
                      have H1 : (if t261 < t289 then (none) else (laws_FnSumsOfDigitsRun.j1 k1 l1)) = some r := by rw [if_pos rfl] at H; exact H
                      clear H
                      have H := H1
                      clear H1
                      by_cases c53 : t261 < t289
                      ·rw [if_pos c53] at H
                       exact absurd H (by simp)
                      ·rw [if_neg c53] at H
                       have c53b0 : decide (t261 < t289) = false := decide_eq_false c53
                       clear c53
                       as_aux_lemma =>
                        have H' := Aside0.mk H
                        clear H
                        go_wp2_with (first | ((with_reducible refine gate_callee (f := 20) rfl ?_); refine goesL_ (some 201) rfl rfl Try.func20 (by kernel_rfl) rfl #[.int .i64 t271, .int .i64 t262] rfl (by (try simp only [List.map_toArray, List.map_cons, List.map_nil]); first | done | rfl | (simp only [List.length_drop, List.length_take]; rfl)) ?_; (with_reducible refine (impl_LeastSumPersistent.calls k1 t271 t262 t289 true _ A51.out).mono ?_); rintro e w54 ⟨rfl, hb⟩; refine ⟨_, rfl, ?_⟩; have n0_ := Aside0.mk (Kd.R_below (by (with_reducible repeat (first | apply Kd.R_alloc | apply Kd.R_drewN | apply Kd.R_drew)); exact HO_7.out) hb); have n1_ := Aside0.mk (below_step (by repeat (first | (with_reducible first | exact HB.out | apply below_alloc | apply pw_below_drewN | apply below_drew1) | exact HB.out)) hb); clear HO_7; clear HB; have HO_7 := n0_; have HB := n1_; clear n0_ n1_; (try clear hb); (try clear hb2); (try clear hk); (try clear hi)))
                        go_meet
                        case rel => exact ⟨_, H', ⟨by have := HK1.out; first | omega | exact Nat.le_refl _⟩, ⟨by repeat (first | (with_reducible first | exact HB.out | apply below_alloc | apply pw_below_drewN | apply below_drew1) | exact HB.out)⟩⟩
                     ·replace c52 := Bool.eq_false_iff.mpr c52
                      subst c52
                      have H1 : (laws_FnSumsOfDigitsRun.j1 k1 l1) = some r := by rw [if_neg (show ¬ (false = true) by decide)] at H; exact H
                      clear H
                      have H := H1
                      clear H1
                      as_aux_lemma =>
                       have H' := Aside0.mk H
                       clear H
                       go_wp2_with (first | ((with_reducible refine gate_callee (f := 20) rfl ?_); refine goesL_ (some 201) rfl rfl Try.func20 (by kernel_rfl) rfl #[.int .i64 t271, .int .i64 t262] rfl (by (try simp only [List.map_toArray, List.map_cons, List.map_nil]); first | done | rfl | (simp only [List.length_drop, List.length_take]; rfl)) ?_; (with_reducible refine (impl_LeastSumPersistent.calls k1 t271 t262 t289 false _ A51.out).mono ?_); rintro e w55 ⟨rfl, hb⟩; refine ⟨_, rfl, ?_⟩; have n0_ := Aside0.mk (Kd.R_below (by (with_reducible repeat (first | apply Kd.R_alloc | apply Kd.R_drewN | apply Kd.R_drew)); exact HO_7.out) hb); have n1_ := Aside0.mk (below_step (by repeat (first | (with_reducible first | exact HB.out | apply below_alloc | apply pw_below_drewN | apply below_drew1) | exact HB.out)) hb); clear HO_7; clear HB; have HO_7 := n0_; have HB := n1_; clear n0_ n1_; (try clear hb); (try clear hb2); (try clear hk); (try clear hi)))
                       go_meet
                       case rel => exact ⟨_, H', ⟨by have := HK1.out; first | omega | exact Nat.le_refl _⟩, ⟨by repeat (first | (with_reducible first | exact HB.out | apply below_alloc | apply pw_below_drewN | apply below_drew1) | exact HB.out)⟩⟩
                 ·rw [if_neg c37] at H
                  exact absurd H (by simp)
                ·replace c36 := Bool.eq_false_iff.mpr c36
                 subst c36
                 have H1 : (none) = some r := by rw [if_neg (show ¬ (false = true) by decide)] at H; exact H
                 clear H
                 have H := H1
                 clear H1
                 exact absurd H (by simp)
               ·rw [if_neg c35] at H
                exact absurd H (by simp)
              ·rw [if_neg c34] at H
               exact absurd H (by simp)
             ·rw [if_neg c32] at H
              exact absurd H (by simp)
            ·rw [if_neg c31] at H
             exact absurd H (by simp)
           ·replace c29 := Bool.eq_false_iff.mpr c29
            subst c29
            have H1 : (laws_FnSumsOfDigitsRun.j1 k l1) = some r := by rw [if_neg (show ¬ (false = true) by decide)] at H; exact H
            clear H
            have H := H1
            clear H1
            as_aux_lemma =>
             have H' := Aside0.mk H
             clear H
             go_wp2
             go_meet
             case rel => exact ⟨_, H', ⟨by first | omega | exact Nat.le_refl _⟩, ⟨by repeat (first | (with_reducible first | exact HB.out | apply below_alloc | apply pw_below_drewN | apply below_drew1) | exact HB.out)⟩⟩
          case rest =>
           clear HC21
           try clear c1
           try clear c2
           try clear p2
           try clear q2
           try clear hx2
           try clear c3
           try clear c4
           try clear c5
           try clear p6
           try clear c9
           try clear c10
           try clear c11
           try clear c12
           try clear c12b0
           try clear c12b1
           try clear c12b2
           try clear c13
           try clear c14
           try clear c15
           try clear c15b0
           try clear c15b1
           try clear c15b2
           try clear c16
           try clear c16b0
           try clear c16b1
           try clear c17
           try clear c17b0
           try clear c17b1
           try clear c17b2
           try clear c18
           try clear c18b0
           try clear c18b1
           try clear c19
           try clear c19b0
           try clear c19b1
           try clear c19b2
           try clear c20
           try clear c20b0
           try clear c20b1
           try clear c20b2
           try clear p28
           try clear q28
           try clear hx28
           try clear c29
           try clear c31
           try clear c31b0
           try clear c32
           try clear c32b0
           try clear c34
           try clear c34b0
           try clear c34b1
           try clear c35
           try clear c35b0
           try clear c35b1
           try clear c36
           try clear c37
           try clear c37b0
           try clear c37b1
           try clear c39
           try clear c39b0
           try clear c41
           try clear c41b0
           try clear c42
           try clear c42b0
           try clear c44
           try clear c45
           try clear c45b0
           try clear c46
           try clear c46b0
           try clear c46b1
           try clear c47
           try clear c47b0
           try clear c48
           try clear c48b0
           try clear c48b1
           try clear c49
           try clear c49b0
           try clear c49b1
           try clear c52
           try clear c53
           try clear c53b0
           try clear hx280_0
           try clear hx283_0
           try clear hx286_0
           try clear hx287_0
           try clear hx288_0
           try clear p2
           try clear p28
           try clear p280
           try clear p283
           try clear p286
           try clear p287
           try clear p288
           try clear p6
           try clear q2
           try clear q28
           try clear q280
           try clear q283
           try clear q286
           try clear q287
           try clear q288
           obtain ⟨kq, HA, HJ20, HB⟩ := hcut
           cases kq with
           | zero => exact absurd HA.out (by simp [laws_FnSumsOfDigitsRun.j1])
           | succ kj20 =>
            have H := HA.out
            clear HA
            simp only [laws_FnSumsOfDigitsRun.j1] at H
            replace H := Option.bind_eq_some_iff.mp H
            obtain ⟨⟨t291, t292⟩, A560, H⟩ := H
            replace H : ((impl_LeastSumPersistent.f kj20 t291 t292).bind fun bt293 => ((spec_LeastSumPersistent.f kj20 t291 t292).bind fun bt295 => (if (bt293.2 != bt295.2) = true then (none) else (if bt293.1 = bt295.1 then (if bt293.2 = true then ((impl_SumPersistence.f kj20 bt293.1 t292).bind fun bt297 => (if bt297.2 = true then (some (bt297.1 == t291)) else (none))) else (some true)) else (none))))) = some r := H
            have A56 := Aside0.mk A560
            clear A560
            replace H := Option.bind_eq_some_iff.mp H
            obtain ⟨⟨t293, t294⟩, A570, H⟩ := H
            replace H : ((spec_LeastSumPersistent.f kj20 t291 t292).bind fun bt295 => (if (t294 != bt295.2) = true then (none) else (if t293 = bt295.1 then (if t294 = true then ((impl_SumPersistence.f kj20 t293 t292).bind fun bt297 => (if bt297.2 = true then (some (bt297.1 == t291)) else (none))) else (some true)) else (none)))) = some r := H
            have A57 := Aside0.mk A570
            clear A570
            replace H := Option.bind_eq_some_iff.mp H
            obtain ⟨⟨t295, t296⟩, A580, H⟩ := H
            replace H : (if (t294 != t296) = true then (none) else (if t293 = t295 then (if t294 = true then ((impl_SumPersistence.f kj20 t293 t292).bind fun bt297 => (if bt297.2 = true then (some (bt297.1 == t291)) else (none))) else (some true)) else (none))) = some r := H
            have A58 := Aside0.mk A580
            clear A580
            by_cases c59 : (t294 != t296) = true
            ·rw [if_pos c59] at H
             exact absurd H (by simp)
            ·rw [if_neg c59] at H
             have c59b0 : (t294 != t296) = false := by simpa using c59
             (try (have c59b1 : decide (t294 = t296) = true := by simpa using c59))
             (try (have c59b2 : (t294 == t296) = true := by simpa using c59))
             clear c59
             by_cases c60 : t293 = t295
             ·rw [if_pos c60] at H
              have c60b0 : (t293 == t295) = true := beq_iff_eq.mpr c60
              have c60b1 : (t293 != t295) = false := bne_eq_false_iff_eq.mpr c60
              clear c60
              by_cases c61 : t294 = true
              ·subst c61
               have H1 : ((impl_SumPersistence.f kj20 t293 t292).bind fun bt297 => (if bt297.2 = true then (some (bt297.1 == t291)) else (none))) = some r := by rw [if_pos rfl] at H; exact H
               clear H
               have H := H1
               clear H1
               replace H := Option.bind_eq_some_iff.mp H
               obtain ⟨⟨t297, t298⟩, A620, H⟩ := H
               replace H : (if t298 = true then (some (t297 == t291)) else (none)) = some r := H
               have A62 := Aside0.mk A620
               clear A620
               by_cases c63 : t298 = true
               ·subst c63
                have H1 : (some (t297 == t291)) = some r := by rw [if_pos rfl] at H; exact H
                clear H
                have H := H1
                clear H1
                as_aux_lemma =>
                 obtain rfl := Option.some.inj H
                 go_wp2_with (first | ((with_reducible refine gate_callee (f := 21) rfl ?_); refine goesL_ (some 212) rfl rfl Try.func21 (by kernel_rfl) rfl #[.slice A1 l1.length c1] rfl (by (try simp only [List.map_toArray, List.map_cons, List.map_nil]); first | done | rfl | (simp only [List.length_drop, List.length_take]; rfl)) ?_; (with_reducible refine (spec_DrawLeastSumPersistent.calls _ _ l1 t291 t292 _ ?side1 ?side2 A56.out).mono ?_); (case side1 => repeat (first | exact (Kd.C_below HR1.out HB.out) | (with_reducible refine Kd.C_alloc ?_ _) | (with_reducible refine Kd.C_drewN ?_ _) | (with_reducible refine Kd.C_drew ?_))); (case side2 => exact HC1.out); rintro e w64 ⟨rfl, hb⟩; refine ⟨_, rfl, ?_⟩; have n0_ := Aside0.mk (below_step (by repeat (first | (with_reducible first | exact HB.out | apply below_alloc | apply pw_below_drewN | apply below_drew1) | exact HB.out)) hb); clear HB; have HB := n0_; clear n0_; (try clear hb); (try clear hb2); (try clear hk); (try clear hi)) | ((with_reducible refine gate_callee (f := 20) rfl ?_); refine goesL_ (some 218) rfl rfl Try.func20 (by kernel_rfl) rfl #[.int .i64 t291, .int .i64 t292] rfl (by (try simp only [List.map_toArray, List.map_cons, List.map_nil]); first | done | rfl | (simp only [List.length_drop, List.length_take]; rfl)) ?_; (with_reducible refine (impl_LeastSumPersistent.calls kj20 t291 t292 t293 true _ A57.out).mono ?_); rintro e w65 ⟨rfl, hb⟩; refine ⟨_, rfl, ?_⟩; have n0_ := Aside0.mk (below_step (by repeat (first | (with_reducible first | exact HB.out | apply below_alloc | apply pw_below_drewN | apply below_drew1) | exact HB.out)) hb); clear HB; have HB := n0_; clear n0_; (try clear hb); (try clear hb2); (try clear hk); (try clear hi)) | ((with_reducible refine gate_callee (f := 22) rfl ?_); refine goesL_ (some 224) rfl rfl Try.func22 (by kernel_rfl) rfl #[.int .i64 t291, .int .i64 t292] rfl (by (try simp only [List.map_toArray, List.map_cons, List.map_nil]); first | done | rfl | (simp only [List.length_drop, List.length_take]; rfl)) ?_; (with_reducible refine (spec_LeastSumPersistent.calls kj20 t291 t292 t295 t296 _ A58.out).mono ?_); rintro e w66 ⟨rfl, hb⟩; refine ⟨_, rfl, ?_⟩; have n0_ := Aside0.mk (below_step (by repeat (first | (with_reducible first | exact HB.out | apply below_alloc | apply pw_below_drewN | apply below_drew1) | exact HB.out)) hb); clear HB; have HB := n0_; clear n0_; (try clear hb); (try clear hb2); (try clear hk); (try clear hi)) | ((with_reducible refine gate_callee (f := 13) rfl ?_); refine goesL_ (some 239) rfl rfl Try.func13 (by kernel_rfl) rfl #[.int .i64 t293, .int .i64 t292] rfl (by (try simp only [List.map_toArray, List.map_cons, List.map_nil]); first | done | rfl | (simp only [List.length_drop, List.length_take]; rfl)) ?_; (with_reducible refine (impl_SumPersistence.calls kj20 t293 t292 t297 true _ A62.out).mono ?_); rintro e w67 ⟨rfl, hb⟩; refine ⟨_, rfl, ?_⟩; have n0_ := Aside0.mk (below_step (by repeat (first | (with_reducible first | exact HB.out | apply below_alloc | apply pw_below_drewN | apply below_drew1) | exact HB.out)) hb); clear HB; have HB := n0_; clear n0_; (try clear hb); (try clear hb2); (try clear hk); (try clear hi)))
                 go_ret
                 exact ⟨by first | rfl | (simp [errW_none, errW_some] <;> rfl) | (simp [*, errW_none, errW_some] <;> rfl), by repeat (first | (with_reducible first | exact HB.out | apply below_alloc | apply pw_below_drewN | apply below_drew1) | exact HB.out)⟩
               ·replace c63 := Bool.eq_false_iff.mpr c63
                subst c63
                have H1 : (none) = some r := by rw [if_neg (show ¬ (false = true) by decide)] at H; exact H
                clear H
                have H := H1
                clear H1
                exact absurd H (by simp)
              ·replace c61 := Bool.eq_false_iff.mpr c61
               subst c61
               have H1 : (some true) = some r := by rw [if_neg (show ¬ (false = true) by decide)] at H; exact H
               clear H
               have H := H1
               clear H1
               as_aux_lemma =>
                obtain rfl := Option.some.inj H
                go_wp2_with (first | ((with_reducible refine gate_callee (f := 21) rfl ?_); refine goesL_ (some 212) rfl rfl Try.func21 (by kernel_rfl) rfl #[.slice A1 l1.length c1] rfl (by (try simp only [List.map_toArray, List.map_cons, List.map_nil]); first | done | rfl | (simp only [List.length_drop, List.length_take]; rfl)) ?_; (with_reducible refine (spec_DrawLeastSumPersistent.calls _ _ l1 t291 t292 _ ?side1 ?side2 A56.out).mono ?_); (case side1 => repeat (first | exact (Kd.C_below HR1.out HB.out) | (with_reducible refine Kd.C_alloc ?_ _) | (with_reducible refine Kd.C_drewN ?_ _) | (with_reducible refine Kd.C_drew ?_))); (case side2 => exact HC1.out); rintro e w68 ⟨rfl, hb⟩; refine ⟨_, rfl, ?_⟩; have n0_ := Aside0.mk (below_step (by repeat (first | (with_reducible first | exact HB.out | apply below_alloc | apply pw_below_drewN | apply below_drew1) | exact HB.out)) hb); clear HB; have HB := n0_; clear n0_; (try clear hb); (try clear hb2); (try clear hk); (try clear hi)) | ((with_reducible refine gate_callee (f := 20) rfl ?_); refine goesL_ (some 218) rfl rfl Try.func20 (by kernel_rfl) rfl #[.int .i64 t291, .int .i64 t292] rfl (by (try simp only [List.map_toArray, List.map_cons, List.map_nil]); first | done | rfl | (simp only [List.length_drop, List.length_take]; rfl)) ?_; (with_reducible refine (impl_LeastSumPersistent.calls kj20 t291 t292 t293 false _ A57.out).mono ?_); rintro e w69 ⟨rfl, hb⟩; refine ⟨_, rfl, ?_⟩; have n0_ := Aside0.mk (below_step (by repeat (first | (with_reducible first | exact HB.out | apply below_alloc | apply pw_below_drewN | apply below_drew1) | exact HB.out)) hb); clear HB; have HB := n0_; clear n0_; (try clear hb); (try clear hb2); (try clear hk); (try clear hi)) | ((with_reducible refine gate_callee (f := 22) rfl ?_); refine goesL_ (some 224) rfl rfl Try.func22 (by kernel_rfl) rfl #[.int .i64 t291, .int .i64 t292] rfl (by (try simp only [List.map_toArray, List.map_cons, List.map_nil]); first | done | rfl | (simp only [List.length_drop, List.length_take]; rfl)) ?_; (with_reducible refine (spec_LeastSumPersistent.calls kj20 t291 t292 t295 t296 _ A58.out).mono ?_); rintro e w70 ⟨rfl, hb⟩; refine ⟨_, rfl, ?_⟩; have n0_ := Aside0.mk (below_step (by repeat (first | (with_reducible first | exact HB.out | apply below_alloc | apply pw_below_drewN | apply below_drew1) | exact HB.out)) hb); clear HB; have HB := n0_; clear n0_; (try clear hb); (try clear hb2); (try clear hk); (try clear hi)))
                go_ret
                exact ⟨by first | rfl | (simp [errW_none, errW_some] <;> rfl) | (simp [*, errW_none, errW_some] <;> rfl), by repeat (first | (with_reducible first | exact HB.out | apply below_alloc | apply pw_below_drewN | apply below_drew1) | exact HB.out)⟩
             ·rw [if_neg c60] at H
              exact absurd H (by simp)
       ·rw [if_neg c18] at H
        exact absurd H (by simp)
     ·rw [if_neg c16] at H
      exact absurd H (by simp)
   ·replace c14 := Bool.eq_false_iff.mpr c14
    subst c14
    have H1 : (none) = some r := by rw [if_neg (show ¬ (false = true) by decide)] at H; exact H
    clear H
    have H := H1
    clear H1
    exact absurd H (by simp)

/-- THE ONE PURE STATEMENT of laws_FnSumsOfDigitsRun: yours. -/
def laws_FnSumsOfDigitsRun.Pure : Prop := ∀ (l0 : List Int) (l1 : List Int), l0.length ≤ maxLen → l0.length * 1 ≤ 140737488351232 → (∀ x ∈ l0, (Lit.int .u8 x).wf = true) → l1.length ≤ maxLen → l1.length * 1 ≤ 140737488351232 → (∀ x ∈ l1, (Lit.int .u8 x).wf = true) → ∃ k, laws_FnSumsOfDigitsRun.f k l0 l1 = some true
theorem laws_FnSumsOfDigitsRun.walk (P : laws_FnSumsOfDigitsRun.Pure) (a0 : Option Addr) (len0 cap0 : Nat) (z0 : List Int) (a1 : Option Addr) (len1 cap1 : Nat) (z1 : List Int) (w : World) (w0 : (a0 = none ∧ len0 = 0 ∧ cap0 = 0 ∧ z0 = []) ∨ ∃ x, a0 = some x ∧ len0 ≤ cap0 ∧ cap0 ≤ maxLen ∧ z0.length = cap0 ∧ (∀ i, i < z0.length → w.cell? (x.add i) = some (.int .u8 (z0.getD i 0))) ∧ ∀ n ∈ z0, (Lit.int .u8 n).wf = true) (y0 : len0 * 1 ≤ 140737488351232) (w1 : (a1 = none ∧ len1 = 0 ∧ cap1 = 0 ∧ z1 = []) ∨ ∃ x, a1 = some x ∧ len1 ≤ cap1 ∧ cap1 ≤ maxLen ∧ z1.length = cap1 ∧ (∀ i, i < z1.length → w.cell? (x.add i) = some (.int .u8 (z1.getD i 0))) ∧ ∀ n ∈ z1, (Lit.int .u8 n).wf = true) (y1 : len1 * 1 ≤ 140737488351232) :
  Calls Try.prog 3 #[.slice a0 len0 cap0, .slice a1 len1 cap1] w fun e w' => e = .returned (.bool true) ∧ Below w.heap.size w w' := by
 obtain ⟨l0, rfl, hr0, hm0, hw0, hc0⟩ := ReadsInt.ofRowC w0
 obtain ⟨l1, rfl, hr1, hm1, hw1, hc1⟩ := ReadsInt.ofRowC w1
 obtain ⟨k, h⟩ := P l0 l1 hm0 y0 hw0 hm1 y1 hw1
 refine (laws_FnSumsOfDigitsRun.calls k _ _ l0 _ _ l1 true w (Kd.C_of_reads (d := (0 : Int)) (h1 := fun _ => rfl) hr0) hc0 (Kd.C_of_reads (d := (0 : Int)) (h1 := fun _ => rfl) hr1) hc1 h).mono ?_
 rintro e w' ⟨rfl, hd⟩
 exact ⟨rfl, hd⟩

end Go.Proofs.Ythamjbfdhghbbaa.PFnSumsOfDigitsRun
