/- Contracts of Go functions that the law FnParityWords reaches: each call does what the Lean function beside it says. Written by a program of this session (wip/gen). -/
import Derived.Test.YthamjbfdhghbbaaPFnParityWordsx0
import Derived.Test.YthamjbfdhghbbaaPFnParityWordsx1
import Derived.Test.YthamjbfdhghbbaaPFnParityWordsx2
import Derived.Test.YthamjbfdhghbbaaPFnParityWordsx3
import Derived.Test.YthamjbfdhghbbaaPFnParityWordsx4
namespace Go.Proofs.Ythamjbfdhghbbaa.PFnParityWords
open Go.RowKit Go.Proofs.YthamjbfdhghbbaaW.PrintWords Go.Proofs.YthamjbfdhghbbaaW.PrintLast Go.Proofs.YthamjbfdhghbbaaW.PrintMore
attribute [local go_sem] max2_int min2_int max_two min_two max_three min_three max_four min_four   -- for this text's walks alone
set_option linter.unusedVariables false
set_option linter.unusedSimpArgs false

/-! ### laws_FnParityWords: function 4 -/
mutual
def laws_FnParityWords.j1 : Nat → List Int → Option (Bool)
 | 0, _ => none
 | k + 1, x1 => (spec_DrawParityWord.f k x1).bind fun bt297 => ((impl_ParityWord.f k bt297.1 bt297.2).bind fun bt299 => ((spec_ParityWord.f k bt297.1 bt297.2).bind fun bt301 => ((impl_OddCount.f k bt297.1 bt297.2).bind fun bt303 => ((spec_OddCount.f k bt297.1 bt297.2).bind fun bt305 => ((impl_AfterShort.f k bt297.1 bt297.2).bind fun bt307 => ((spec_AfterShort.f k bt297.1 bt297.2).bind fun bt309 => (if (bt299.2 != bt301.2) = true then (none) else (if bt299.1.toList = bt301.1.toList then (if (bt303.2 != bt305.2) = true then (none) else (if bt303.1 = bt305.1 then (if (bt307.2 != bt309.2) = true then (none) else (if bt307.1 = bt309.1 then (if (bt303.2 != bt299.2) = true then (none) else (if bt299.2 = true then ((impl_NumberOfWord.f k bt299.1).bind fun bt311 => (if bt311.2 = true then (if 0 ≤ bt297.2 then (if (shl .i64 1 bt297.2) = 0 then (none) else (if (Int.tmod (wrap64 (bt297.1 - bt311.1)) (shl .i64 1 bt297.2)) = 0 then (laws_FnParityWords.l1 k bt297.2 bt299.1 bt307.1 bt307.2 bt297.1 0) else (none))) else (none)) else (none))) else (some true))) else (none))) else (none))) else (none)))))))))
def laws_FnParityWords.l1 : Nat → Int → ByteArray → Int → Bool → Int → Int → Option (Bool)
 | 0, _, _, _, _, _, _ => none
 | k + 1, x27, x28, x36, x37, x42, x43 => if x43 < x27 then (if 0 ≤ x43 then (if x43 < (x28.size : Int) then (if (((bt x28 x43) == 49) != ((Int.tmod x42 2) == 1)) = true then (none) else ((impl_ShortStep.f x42).bind fun bt313 => (if bt313.2 = true then (laws_FnParityWords.l1 k x27 x28 x36 x37 bt313.1 (wrap64 (x43 + 1))) else (if x43 = (wrap64 (x27 - 1)) then (some (!x37)) else (none))))) else (none)) else (none)) else (if x37 = true then (some (x42 == x36)) else (some true))
def laws_FnParityWords.l0 : Nat → List Int → ByteArray → Int → Int → ByteArray → Bool → Int → Bool → Int → Bool → Int → ByteArray → Bool → Int → Bool → Int → Int → Int → Option (Bool)
 | 0, _, _, _, _, _, _, _, _, _, _, _, _, _, _, _, _, _, _ => none
 | k + 1, x1, x5, x6, x10, x11, x12, x13, x14, x15, x16, x17, x19, x20, x21, x22, x23, x24, x25 => if x25 < x10 then (if 0 ≤ x25 then (if x25 < (x5.size : Int) then (if (bt x5 x25) = 49 then (laws_FnParityWords.l0 k x1 x5 x6 x10 x11 x12 x13 x14 x15 x16 x17 x19 x20 x21 x22 (wrap64 (x23 * 3)) (wrap64 (x24 + 1)) (wrap64 (x25 + 1))) else (laws_FnParityWords.l0 k x1 x5 x6 x10 x11 x12 x13 x14 x15 x16 x17 x19 x20 x21 x22 x23 x24 (wrap64 (x25 + 1)))) else (none)) else (none)) else (if x6 < 1 then (none) else (if 0 ≤ x10 then (if x6 > (shl .i64 1 x10) then (none) else (if x12 = true then (if x11.toList = x5.toList then (if x14 = true then (if x13 = x24 then (if x16 = true then (if x20 = true then (if x19.toList = x5.toList then (if x22 = true then (if x21 = (wrap64 (x15 + (wrap64 (x17 * x23)))) then (laws_FnParityWords.j1 k x1) else (none)) else (none)) else (none)) else (none)) else (none)) else (none)) else (none)) else (none)) else (none))) else (none)))
end
def laws_FnParityWords.f (k : Nat) (l0 : List Int) (l1 : List Int) : Option (Bool) := (laws_big.f l0 l1).bind fun t281 => (if t281 = true then (some true) else ((spec_DrawNumberOfWord.f k l0).bind fun t282 => ((impl_NumberOfWord.f k t282).bind fun bt283 => ((spec_NumberOfWord.f k t282).bind fun bt285 => (if (bt283.2 != bt285.2) = true then (none) else (if bt283.1 = bt285.1 then (if bt283.2 = true then ((impl_ParityWord.f k bt283.1 (t282.size : Int)).bind fun bt287 => ((impl_OddCount.f k bt283.1 (t282.size : Int)).bind fun bt289 => ((impl_AfterShort.f k bt283.1 (t282.size : Int)).bind fun bt291 => ((impl_ParityWord.f k (wrap64 (bt283.1 + (shl .i64 (1 + ((l1.length : Int) % 7)) (t282.size : Int)))) (t282.size : Int)).bind fun bt293 => ((impl_AfterShort.f k (wrap64 (bt283.1 + (shl .i64 (1 + ((l1.length : Int) % 7)) (t282.size : Int)))) (t282.size : Int)).bind fun bt295 => (laws_FnParityWords.l0 k l1 t282 bt283.1 (t282.size : Int) bt287.1 bt287.2 bt289.1 bt289.2 bt291.1 bt291.2 (1 + ((l1.length : Int) % 7)) bt293.1 bt293.2 bt295.1 bt295.2 1 0 0)))))) else (laws_FnParityWords.j1 k l1)) else (none)))))))
theorem laws_FnParityWords.mono_l : ∀ k, (∀ y0, LeO (laws_FnParityWords.j1 k y0) (laws_FnParityWords.j1 (k + 1) y0)) ∧ (∀ y0 y1 y2 y3 y4 y5, LeO (laws_FnParityWords.l1 k y0 y1 y2 y3 y4 y5) (laws_FnParityWords.l1 (k + 1) y0 y1 y2 y3 y4 y5)) ∧ (∀ y0 y1 y2 y3 y4 y5 y6 y7 y8 y9 y10 y11 y12 y13 y14 y15 y16 y17, LeO (laws_FnParityWords.l0 k y0 y1 y2 y3 y4 y5 y6 y7 y8 y9 y10 y11 y12 y13 y14 y15 y16 y17) (laws_FnParityWords.l0 (k + 1) y0 y1 y2 y3 y4 y5 y6 y7 y8 y9 y10 y11 y12 y13 y14 y15 y16 y17))
 | 0 => ⟨fun _ r h => by simp [laws_FnParityWords.j1] at h, fun _ _ _ _ _ _ r h => by simp [laws_FnParityWords.l1] at h, fun _ _ _ _ _ _ _ _ _ _ _ _ _ _ _ _ _ _ r h => by simp [laws_FnParityWords.l0] at h⟩
 | k + 1 => by
  obtain ⟨ih0, ih1, ih2⟩ := laws_FnParityWords.mono_l k
  refine ⟨?_, ?_, ?_⟩
  ·intro y0
   unfold laws_FnParityWords.j1
   repeat' first
   | (with_reducible exact ih0 _)
   | (with_reducible exact ih1 _ _ _ _ _ _)
   | (with_reducible exact ih2 _ _ _ _ _ _ _ _ _ _ _ _ _ _ _ _ _ _)
   | (with_reducible exact impl_AfterShort.mono _ _ _)
   | (with_reducible exact impl_NumberOfWord.mono _ _)
   | (with_reducible exact impl_OddCount.mono _ _ _)
   | (with_reducible exact impl_ParityWord.mono _ _ _)
   | (with_reducible exact spec_AfterShort.mono _ _ _)
   | (with_reducible exact spec_DrawNumberOfWord.mono _ _)
   | (with_reducible exact spec_DrawParityWord.mono _ _)
   | (with_reducible exact spec_NumberOfWord.mono _ _)
   | (with_reducible exact spec_OddCount.mono _ _ _)
   | (with_reducible exact spec_ParityWord.mono _ _ _)
   | (with_reducible exact LeO.refl _)
   | (with_reducible exact LeO.none _)
   | (with_reducible refine LeO.ite ?_ ?_)
   | (with_reducible refine LeO.bind ?_ (fun _ => ?_))
   | exact ih0 _
   | exact ih1 _ _ _ _ _ _
   | exact ih2 _ _ _ _ _ _ _ _ _ _ _ _ _ _ _ _ _ _
   | exact impl_AfterShort.mono _ _ _
   | exact impl_NumberOfWord.mono _ _
   | exact impl_OddCount.mono _ _ _
   | exact impl_ParityWord.mono _ _ _
   | exact spec_AfterShort.mono _ _ _
   | exact spec_DrawNumberOfWord.mono _ _
   | exact spec_DrawParityWord.mono _ _
   | exact spec_NumberOfWord.mono _ _
   | exact spec_OddCount.mono _ _ _
   | exact spec_ParityWord.mono _ _ _
   | exact LeO.none _
   | refine LeO.ite ?_ ?_
   | refine LeO.bind ?_ (fun _ => ?_)
  ·intro y0 y1 y2 y3 y4 y5
   unfold laws_FnParityWords.l1
   repeat' first
   | (with_reducible exact ih0 _)
   | (with_reducible exact ih1 _ _ _ _ _ _)
   | (with_reducible exact ih2 _ _ _ _ _ _ _ _ _ _ _ _ _ _ _ _ _ _)
   | (with_reducible exact impl_AfterShort.mono _ _ _)
   | (with_reducible exact impl_NumberOfWord.mono _ _)
   | (with_reducible exact impl_OddCount.mono _ _ _)
   | (with_reducible exact impl_ParityWord.mono _ _ _)
   | (with_reducible exact spec_AfterShort.mono _ _ _)
   | (with_reducible exact spec_DrawNumberOfWord.mono _ _)
   | (with_reducible exact spec_DrawParityWord.mono _ _)
   | (with_reducible exact spec_NumberOfWord.mono _ _)
   | (with_reducible exact spec_OddCount.mono _ _ _)
   | (with_reducible exact spec_ParityWord.mono _ _ _)
   | (with_reducible exact LeO.refl _)
   | (with_reducible exact LeO.none _)
   | (with_reducible refine LeO.ite ?_ ?_)
   | (with_reducible refine LeO.bind ?_ (fun _ => ?_))
   | exact ih0 _
   | exact ih1 _ _ _ _ _ _
   | exact ih2 _ _ _ _ _ _ _ _ _ _ _ _ _ _ _ _ _ _
   | exact impl_AfterShort.mono _ _ _
   | exact impl_NumberOfWord.mono _ _
   | exact impl_OddCount.mono _ _ _
   | exact impl_ParityWord.mono _ _ _
   | exact spec_AfterShort.mono _ _ _
   | exact spec_DrawNumberOfWord.mono _ _
   | exact spec_DrawParityWord.mono _ _
   | exact spec_NumberOfWord.mono _ _
   | exact spec_OddCount.mono _ _ _
   | exact spec_ParityWord.mono _ _ _
   | exact LeO.none _
   | refine LeO.ite ?_ ?_
   | refine LeO.bind ?_ (fun _ => ?_)
  ·intro y0 y1 y2 y3 y4 y5 y6 y7 y8 y9 y10 y11 y12 y13 y14 y15 y16 y17
   unfold laws_FnParityWords.l0
   repeat' first
   | (with_reducible exact ih0 _)
   | (with_reducible exact ih1 _ _ _ _ _ _)
   | (with_reducible exact ih2 _ _ _ _ _ _ _ _ _ _ _ _ _ _ _ _ _ _)
   | (with_reducible exact impl_AfterShort.mono _ _ _)
   | (with_reducible exact impl_NumberOfWord.mono _ _)
   | (with_reducible exact impl_OddCount.mono _ _ _)
   | (with_reducible exact impl_ParityWord.mono _ _ _)
   | (with_reducible exact spec_AfterShort.mono _ _ _)
   | (with_reducible exact spec_DrawNumberOfWord.mono _ _)
   | (with_reducible exact spec_DrawParityWord.mono _ _)
   | (with_reducible exact spec_NumberOfWord.mono _ _)
   | (with_reducible exact spec_OddCount.mono _ _ _)
   | (with_reducible exact spec_ParityWord.mono _ _ _)
   | (with_reducible exact LeO.refl _)
   | (with_reducible exact LeO.none _)
   | (with_reducible refine LeO.ite ?_ ?_)
   | (with_reducible refine LeO.bind ?_ (fun _ => ?_))
   | exact ih0 _
   | exact ih1 _ _ _ _ _ _
   | exact ih2 _ _ _ _ _ _ _ _ _ _ _ _ _ _ _ _ _ _
   | exact impl_AfterShort.mono _ _ _
   | exact impl_NumberOfWord.mono _ _
   | exact impl_OddCount.mono _ _ _
   | exact impl_ParityWord.mono _ _ _
   | exact spec_AfterShort.mono _ _ _
   | exact spec_DrawNumberOfWord.mono _ _
   | exact spec_DrawParityWord.mono _ _
   | exact spec_NumberOfWord.mono _ _
   | exact spec_OddCount.mono _ _ _
   | exact spec_ParityWord.mono _ _ _
   | exact LeO.none _
   | refine LeO.ite ?_ ?_
   | refine LeO.bind ?_ (fun _ => ?_)
theorem laws_FnParityWords.mono : ∀ a0 a1 k, LeO (laws_FnParityWords.f k a0 a1) (laws_FnParityWords.f (k + 1) a0 a1) := by
 intro a0 a1 k
 obtain ⟨ih0, ih1, ih2⟩ := laws_FnParityWords.mono_l k
 unfold laws_FnParityWords.f
 repeat' first
   | (with_reducible exact ih0 _)
   | (with_reducible exact ih1 _ _ _ _ _ _)
   | (with_reducible exact ih2 _ _ _ _ _ _ _ _ _ _ _ _ _ _ _ _ _ _)
   | (with_reducible exact impl_AfterShort.mono _ _ _)
   | (with_reducible exact impl_NumberOfWord.mono _ _)
   | (with_reducible exact impl_OddCount.mono _ _ _)
   | (with_reducible exact impl_ParityWord.mono _ _ _)
   | (with_reducible exact spec_AfterShort.mono _ _ _)
   | (with_reducible exact spec_DrawNumberOfWord.mono _ _)
   | (with_reducible exact spec_DrawParityWord.mono _ _)
   | (with_reducible exact spec_NumberOfWord.mono _ _)
   | (with_reducible exact spec_OddCount.mono _ _ _)
   | (with_reducible exact spec_ParityWord.mono _ _ _)
   | (with_reducible exact LeO.refl _)
   | (with_reducible exact LeO.none _)
   | (with_reducible refine LeO.ite ?_ ?_)
   | (with_reducible refine LeO.bind ?_ (fun _ => ?_))
   | exact ih0 _
   | exact ih1 _ _ _ _ _ _
   | exact ih2 _ _ _ _ _ _ _ _ _ _ _ _ _ _ _ _ _ _
   | exact impl_AfterShort.mono _ _ _
   | exact impl_NumberOfWord.mono _ _
   | exact impl_OddCount.mono _ _ _
   | exact impl_ParityWord.mono _ _ _
   | exact spec_AfterShort.mono _ _ _
   | exact spec_DrawNumberOfWord.mono _ _
   | exact spec_DrawParityWord.mono _ _
   | exact spec_NumberOfWord.mono _ _
   | exact spec_OddCount.mono _ _ _
   | exact spec_ParityWord.mono _ _ _
   | exact LeO.none _
   | refine LeO.ite ?_ ?_
   | refine LeO.bind ?_ (fun _ => ?_)
set_option maxHeartbeats 8000000 in
set_option maxRecDepth 100000 in
theorem laws_FnParityWords.calls (k : Nat) (A0 : Option Addr) (c0 : Nat) (l0 : List Int) (A1 : Option Addr) (c1 : Nat) (l1 : List Int) (r : Bool) (w : World) (hr0 : Kd.C (Kd.int .u8) w A0 l0.length l0) (hc0 : l0.length ≤ c0) (hr1 : Kd.C (Kd.int .u8) w A1 l1.length l1) (hc1 : l1.length ≤ c1) (h : laws_FnParityWords.f k l0 l1 = some r) :
  Calls Try.prog 4 #[.slice A0 l0.length c0, .slice A1 l1.length c1] w fun e w' => e = .returned (.bool r) ∧ Below w.heap.size w w' := by
 have HR0 := Aside0.mk hr0
 have HC0 := Aside0.mk hc0
 clear hr0 hc0
 have HR1 := Aside0.mk hr1
 have HC1 := Aside0.mk hc1
 clear hr1 hc1
 have HB := Aside0.mk (Below.refl w.heap.size w)
 have H : ((laws_big.f l0 l1).bind fun t281 => (if t281 = true then (some true) else ((spec_DrawNumberOfWord.f k l0).bind fun t282 => ((impl_NumberOfWord.f k t282).bind fun bt283 => ((spec_NumberOfWord.f k t282).bind fun bt285 => (if (bt283.2 != bt285.2) = true then (none) else (if bt283.1 = bt285.1 then (if bt283.2 = true then ((impl_ParityWord.f k bt283.1 (t282.size : Int)).bind fun bt287 => ((impl_OddCount.f k bt283.1 (t282.size : Int)).bind fun bt289 => ((impl_AfterShort.f k bt283.1 (t282.size : Int)).bind fun bt291 => ((impl_ParityWord.f k (wrap64 (bt283.1 + (shl .i64 (1 + ((l1.length : Int) % 7)) (t282.size : Int)))) (t282.size : Int)).bind fun bt293 => ((impl_AfterShort.f k (wrap64 (bt283.1 + (shl .i64 (1 + ((l1.length : Int) % 7)) (t282.size : Int)))) (t282.size : Int)).bind fun bt295 => (laws_FnParityWords.l0 k l1 t282 bt283.1 (t282.size : Int) bt287.1 bt287.2 bt289.1 bt289.2 bt291.1 bt291.2 (1 + ((l1.length : Int) % 7)) bt293.1 bt293.2 bt295.1 bt295.2 1 0 0)))))) else (laws_FnParityWords.j1 k l1)) else (none)))))))) = some r := h
 clear h
 replace H := Option.bind_eq_some_iff.mp H
 obtain ⟨t281, A30, H⟩ := H
 replace H : (if t281 = true then (some true) else ((spec_DrawNumberOfWord.f k l0).bind fun t282 => ((impl_NumberOfWord.f k t282).bind fun bt283 => ((spec_NumberOfWord.f k t282).bind fun bt285 => (if (bt283.2 != bt285.2) = true then (none) else (if bt283.1 = bt285.1 then (if bt283.2 = true then ((impl_ParityWord.f k bt283.1 (t282.size : Int)).bind fun bt287 => ((impl_OddCount.f k bt283.1 (t282.size : Int)).bind fun bt289 => ((impl_AfterShort.f k bt283.1 (t282.size : Int)).bind fun bt291 => ((impl_ParityWord.f k (wrap64 (bt283.1 + (shl .i64 (1 + ((l1.length : Int) % 7)) (t282.size : Int)))) (t282.size : Int)).bind fun bt293 => ((impl_AfterShort.f k (wrap64 (bt283.1 + (shl .i64 (1 + ((l1.length : Int) % 7)) (t282.size : Int)))) (t282.size : Int)).bind fun bt295 => (laws_FnParityWords.l0 k l1 t282 bt283.1 (t282.size : Int) bt287.1 bt287.2 bt289.1 bt289.2 bt291.1 bt291.2 (1 + ((l1.length : Int) % 7)) bt293.1 bt293.2 bt295.1 bt295.2 1 0 0)))))) else (laws_FnParityWords.j1 k l1)) else (none))))))) = some r := H
 have A3 := Aside0.mk A30
 clear A30
 by_cases c4 : t281 = true
 ·subst c4
  have H1 : (some true) = some r := by rw [if_pos rfl] at H; exact H
  clear H
  have H := H1
  clear H1
  as_aux_lemma =>
   obtain rfl := Option.some.inj H
   go_enter Try.func4, Try.ntmps4
   go_wp2_with (first | ((with_reducible refine gate_callee (f := 9) rfl ?_); refine goesL_ (some 48) rfl rfl Try.func9 (by kernel_rfl) rfl #[.slice A0 l0.length c0, .slice A1 l1.length c1] rfl (by (try simp only [List.map_toArray, List.map_cons, List.map_nil]); first | done | rfl | (simp only [List.length_drop, List.length_take]; rfl)) ?_; (with_reducible refine (laws_big.calls _ _ l0 _ _ l1 true _ ?side1 ?side2 ?side3 ?side4 A3.out).mono ?_); (case side1 => repeat (first | exact HR0.out | (with_reducible refine Kd.C_alloc ?_ _) | (with_reducible refine Kd.C_drewN ?_ _) | (with_reducible refine Kd.C_drew ?_))); (case side2 => exact HC0.out); (case side3 => repeat (first | exact HR1.out | (with_reducible refine Kd.C_alloc ?_ _) | (with_reducible refine Kd.C_drewN ?_ _) | (with_reducible refine Kd.C_drew ?_))); (case side4 => exact HC1.out); rintro e w' ⟨rfl, ⟨nd, rfl⟩⟩; refine ⟨_, rfl, ?_⟩))
   go_ret
   exact ⟨by first | rfl | (simp [errW_none, errW_some] <;> rfl) | (simp [*, errW_none, errW_some] <;> rfl), by repeat (first | (with_reducible first | exact HB.out | apply below_alloc | apply pw_below_drewN | apply below_drew1) | exact HB.out)⟩
 ·replace c4 := Bool.eq_false_iff.mpr c4
  subst c4
  have H1 : ((spec_DrawNumberOfWord.f k l0).bind fun t282 => ((impl_NumberOfWord.f k t282).bind fun bt283 => ((spec_NumberOfWord.f k t282).bind fun bt285 => (if (bt283.2 != bt285.2) = true then (none) else (if bt283.1 = bt285.1 then (if bt283.2 = true then ((impl_ParityWord.f k bt283.1 (t282.size : Int)).bind fun bt287 => ((impl_OddCount.f k bt283.1 (t282.size : Int)).bind fun bt289 => ((impl_AfterShort.f k bt283.1 (t282.size : Int)).bind fun bt291 => ((impl_ParityWord.f k (wrap64 (bt283.1 + (shl .i64 (1 + ((l1.length : Int) % 7)) (t282.size : Int)))) (t282.size : Int)).bind fun bt293 => ((impl_AfterShort.f k (wrap64 (bt283.1 + (shl .i64 (1 + ((l1.length : Int) % 7)) (t282.size : Int)))) (t282.size : Int)).bind fun bt295 => (laws_FnParityWords.l0 k l1 t282 bt283.1 (t282.size : Int) bt287.1 bt287.2 bt289.1 bt289.2 bt291.1 bt291.2 (1 + ((l1.length : Int) % 7)) bt293.1 bt293.2 bt295.1 bt295.2 1 0 0)))))) else (laws_FnParityWords.j1 k l1)) else (none)))))) = some r := by rw [if_neg (show ¬ (false = true) by decide)] at H; exact H
  clear H
  have H := H1
  clear H1
  replace H := Option.bind_eq_some_iff.mp H
  obtain ⟨t282, A50, H⟩ := H
  replace H : ((impl_NumberOfWord.f k t282).bind fun bt283 => ((spec_NumberOfWord.f k t282).bind fun bt285 => (if (bt283.2 != bt285.2) = true then (none) else (if bt283.1 = bt285.1 then (if bt283.2 = true then ((impl_ParityWord.f k bt283.1 (t282.size : Int)).bind fun bt287 => ((impl_OddCount.f k bt283.1 (t282.size : Int)).bind fun bt289 => ((impl_AfterShort.f k bt283.1 (t282.size : Int)).bind fun bt291 => ((impl_ParityWord.f k (wrap64 (bt283.1 + (shl .i64 (1 + ((l1.length : Int) % 7)) (t282.size : Int)))) (t282.size : Int)).bind fun bt293 => ((impl_AfterShort.f k (wrap64 (bt283.1 + (shl .i64 (1 + ((l1.length : Int) % 7)) (t282.size : Int)))) (t282.size : Int)).bind fun bt295 => (laws_FnParityWords.l0 k l1 t282 bt283.1 (t282.size : Int) bt287.1 bt287.2 bt289.1 bt289.2 bt291.1 bt291.2 (1 + ((l1.length : Int) % 7)) bt293.1 bt293.2 bt295.1 bt295.2 1 0 0)))))) else (laws_FnParityWords.j1 k l1)) else (none))))) = some r := H
  have A5 := Aside0.mk A50
  clear A50
  replace H := Option.bind_eq_some_iff.mp H
  obtain ⟨⟨t283, t284⟩, A60, H⟩ := H
  replace H : ((spec_NumberOfWord.f k t282).bind fun bt285 => (if (t284 != bt285.2) = true then (none) else (if t283 = bt285.1 then (if t284 = true then ((impl_ParityWord.f k t283 (t282.size : Int)).bind fun bt287 => ((impl_OddCount.f k t283 (t282.size : Int)).bind fun bt289 => ((impl_AfterShort.f k t283 (t282.size : Int)).bind fun bt291 => ((impl_ParityWord.f k (wrap64 (t283 + (shl .i64 (1 + ((l1.length : Int) % 7)) (t282.size : Int)))) (t282.size : Int)).bind fun bt293 => ((impl_AfterShort.f k (wrap64 (t283 + (shl .i64 (1 + ((l1.length : Int) % 7)) (t282.size : Int)))) (t282.size : Int)).bind fun bt295 => (laws_FnParityWords.l0 k l1 t282 t283 (t282.size : Int) bt287.1 bt287.2 bt289.1 bt289.2 bt291.1 bt291.2 (1 + ((l1.length : Int) % 7)) bt293.1 bt293.2 bt295.1 bt295.2 1 0 0)))))) else (laws_FnParityWords.j1 k l1)) else (none)))) = some r := H
  have A6 := Aside0.mk A60
  clear A60
  replace H := Option.bind_eq_some_iff.mp H
  obtain ⟨⟨t285, t286⟩, A70, H⟩ := H
  replace H : (if (t284 != t286) = true then (none) else (if t283 = t285 then (if t284 = true then ((impl_ParityWord.f k t283 (t282.size : Int)).bind fun bt287 => ((impl_OddCount.f k t283 (t282.size : Int)).bind fun bt289 => ((impl_AfterShort.f k t283 (t282.size : Int)).bind fun bt291 => ((impl_ParityWord.f k (wrap64 (t283 + (shl .i64 (1 + ((l1.length : Int) % 7)) (t282.size : Int)))) (t282.size : Int)).bind fun bt293 => ((impl_AfterShort.f k (wrap64 (t283 + (shl .i64 (1 + ((l1.length : Int) % 7)) (t282.size : Int)))) (t282.size : Int)).bind fun bt295 => (laws_FnParityWords.l0 k l1 t282 t283 (t282.size : Int) bt287.1 bt287.2 bt289.1 bt289.2 bt291.1 bt291.2 (1 + ((l1.length : Int) % 7)) bt293.1 bt293.2 bt295.1 bt295.2 1 0 0)))))) else (laws_FnParityWords.j1 k l1)) else (none))) = some r := H
  have A7 := Aside0.mk A70
  clear A70
  by_cases c8 : (t284 != t286) = true
  ·rw [if_pos c8] at H
   exact absurd H (by simp)
  ·rw [if_neg c8] at H
   have c8b0 : (t284 != t286) = false := by simpa using c8
   (try (have c8b1 : decide (t284 = t286) = true := by simpa using c8))
   (try (have c8b2 : (t284 == t286) = true := by simpa using c8))
   clear c8
   by_cases c9 : t283 = t285
   ·rw [if_pos c9] at H
    have c9b0 : (t283 == t285) = true := beq_iff_eq.mpr c9
    have c9b1 : (t283 != t285) = false := bne_eq_false_iff_eq.mpr c9
    clear c9
    have HC10 := Aside0.mk H
    clear H
    go_enter Try.func4, Try.ntmps4
    go_upto_if 69 with (first | ((with_reducible refine gate_callee (f := 9) rfl ?_); refine goesL_ (some 48) rfl rfl Try.func9 (by kernel_rfl) rfl #[.slice A0 l0.length c0, .slice A1 l1.length c1] rfl (by (try simp only [List.map_toArray, List.map_cons, List.map_nil]); first | done | rfl | (simp only [List.length_drop, List.length_take]; rfl)) ?_; (with_reducible refine (laws_big.calls _ _ l0 _ _ l1 false _ ?side1 ?side2 ?side3 ?side4 A3.out).mono ?_); (case side1 => repeat (first | exact HR0.out | (with_reducible refine Kd.C_alloc ?_ _) | (with_reducible refine Kd.C_drewN ?_ _) | (with_reducible refine Kd.C_drew ?_))); (case side2 => exact HC0.out); (case side3 => repeat (first | exact HR1.out | (with_reducible refine Kd.C_alloc ?_ _) | (with_reducible refine Kd.C_drewN ?_ _) | (with_reducible refine Kd.C_drew ?_))); (case side4 => exact HC1.out); rintro e w' ⟨rfl, ⟨nd, rfl⟩⟩; refine ⟨_, rfl, ?_⟩) | ((with_reducible refine gate_callee (f := 23) rfl ?_); refine goesL_ (some 50) rfl rfl Try.func23 (by kernel_rfl) rfl #[.slice A0 l0.length c0] rfl (by (try simp only [List.map_toArray, List.map_cons, List.map_nil]); first | done | rfl | (simp only [List.length_drop, List.length_take]; rfl)) ?_; (with_reducible refine (spec_DrawNumberOfWord.calls k _ _ l0 t282 _ ?side1 ?side2 A5.out).mono ?_); (case side1 => repeat (first | exact HR0.out | (with_reducible refine Kd.C_alloc ?_ _) | (with_reducible refine Kd.C_drewN ?_ _) | (with_reducible refine Kd.C_drew ?_))); (case side2 => exact HC0.out); rintro e w11 ⟨rfl, hb⟩; refine ⟨_, rfl, ?_⟩; have n0_ := Aside0.mk (below_step (by repeat (first | (with_reducible first | exact HB.out | apply below_alloc | apply pw_below_drewN | apply below_drew1) | exact HB.out)) hb); clear HB; have HB := n0_; clear n0_; (try clear hb); (try clear hb2); (try clear hk); (try clear hi)) | ((with_reducible refine gate_callee (f := 24) rfl ?_); refine goesL_ (some 53) rfl rfl Try.func24 (by kernel_rfl) rfl #[.string t282] rfl (by (try simp only [List.map_toArray, List.map_cons, List.map_nil]); first | done | rfl | (simp only [List.length_drop, List.length_take]; rfl)) ?_; (with_reducible refine (impl_NumberOfWord.calls k t282 t283 t284 _ A6.out).mono ?_); rintro e w12 ⟨rfl, hb⟩; refine ⟨_, rfl, ?_⟩; have n0_ := Aside0.mk (below_step (by repeat (first | (with_reducible first | exact HB.out | apply below_alloc | apply pw_below_drewN | apply below_drew1) | exact HB.out)) hb); clear HB; have HB := n0_; clear n0_; (try clear hb); (try clear hb2); (try clear hk); (try clear hi)) | ((with_reducible refine gate_callee (f := 25) rfl ?_); refine goesL_ (some 58) rfl rfl Try.func25 (by kernel_rfl) rfl #[.string t282] rfl (by (try simp only [List.map_toArray, List.map_cons, List.map_nil]); first | done | rfl | (simp only [List.length_drop, List.length_take]; rfl)) ?_; (with_reducible refine (spec_NumberOfWord.calls k t282 t285 t286 _ A7.out).mono ?_); rintro e w13 ⟨rfl, hb⟩; refine ⟨_, rfl, ?_⟩; have n0_ := Aside0.mk (below_step (by repeat (first | (with_reducible first | exact HB.out | apply below_alloc | apply pw_below_drewN | apply below_drew1) | exact HB.out)) hb); clear HB; have HB := n0_; clear n0_; (try clear hb); (try clear hb2); (try clear hk); (try clear hi)))
    (try simp only [Act.put, List.setIfInBounds_toArray, List.set_cons_zero, List.set_cons_succ])
    go_cut [] (fun wc => ∃ (kq : Nat), Aside0 (laws_FnParityWords.j1 kq l1 = some r) ∧ Aside0 (kq ≤ k) ∧ Aside0 (Below w.heap.size w wc))
    case first =>
     have H := HC10.out
     clear HC10
     by_cases c14 : t284 = true
     ·subst c14
      have H1 : ((impl_ParityWord.f k t283 (t282.size : Int)).bind fun bt287 => ((impl_OddCount.f k t283 (t282.size : Int)).bind fun bt289 => ((impl_AfterShort.f k t283 (t282.size : Int)).bind fun bt291 => ((impl_ParityWord.f k (wrap64 (t283 + (shl .i64 (1 + ((l1.length : Int) % 7)) (t282.size : Int)))) (t282.size : Int)).bind fun bt293 => ((impl_AfterShort.f k (wrap64 (t283 + (shl .i64 (1 + ((l1.length : Int) % 7)) (t282.size : Int)))) (t282.size : Int)).bind fun bt295 => (laws_FnParityWords.l0 k l1 t282 t283 (t282.size : Int) bt287.1 bt287.2 bt289.1 bt289.2 bt291.1 bt291.2 (1 + ((l1.length : Int) % 7)) bt293.1 bt293.2 bt295.1 bt295.2 1 0 0)))))) = some r := by rw [if_pos rfl] at H; exact H
      clear H
      have H := H1
      clear H1
      replace H := Option.bind_eq_some_iff.mp H
      obtain ⟨⟨t287, t288⟩, A150, H⟩ := H
      replace H : ((impl_OddCount.f k t283 (t282.size : Int)).bind fun bt289 => ((impl_AfterShort.f k t283 (t282.size : Int)).bind fun bt291 => ((impl_ParityWord.f k (wrap64 (t283 + (shl .i64 (1 + ((l1.length : Int) % 7)) (t282.size : Int)))) (t282.size : Int)).bind fun bt293 => ((impl_AfterShort.f k (wrap64 (t283 + (shl .i64 (1 + ((l1.length : Int) % 7)) (t282.size : Int)))) (t282.size : Int)).bind fun bt295 => (laws_FnParityWords.l0 k l1 t282 t283 (t282.size : Int) t287 t288 bt289.1 bt289.2 bt291.1 bt291.2 (1 + ((l1.length : Int) % 7)) bt293.1 bt293.2 bt295.1 bt295.2 1 0 0))))) = some r := H
      have A15 := Aside0.mk A150
      clear A150
      replace H := Option.bind_eq_some_iff.mp H
      obtain ⟨⟨t289, t290⟩, A160, H⟩ := H
      replace H : ((impl_AfterShort.f k t283 (t282.size : Int)).bind fun bt291 => ((impl_ParityWord.f k (wrap64 (t283 + (shl .i64 (1 + ((l1.length : Int) % 7)) (t282.size : Int)))) (t282.size : Int)).bind fun bt293 => ((impl_AfterShort.f k (wrap64 (t283 + (shl .i64 (1 + ((l1.length : Int) % 7)) (t282.size : Int)))) (t282.size : Int)).bind fun bt295 => (laws_FnParityWords.l0 k l1 t282 t283 (t282.size : Int) t287 t288 t289 t290 bt291.1 bt291.2 (1 + ((l1.length : Int) % 7)) bt293.1 bt293.2 bt295.1 bt295.2 1 0 0)))) = some r := H
      have A16 := Aside0.mk A160
      clear A160
      replace H := Option.bind_eq_some_iff.mp H
      obtain ⟨⟨t291, t292⟩, A170, H⟩ := H
      replace H : ((impl_ParityWord.f k (wrap64 (t283 + (shl .i64 (1 + ((l1.length : Int) % 7)) (t282.size : Int)))) (t282.size : Int)).bind fun bt293 => ((impl_AfterShort.f k (wrap64 (t283 + (shl .i64 (1 + ((l1.length : Int) % 7)) (t282.size : Int)))) (t282.size : Int)).bind fun bt295 => (laws_FnParityWords.l0 k l1 t282 t283 (t282.size : Int) t287 t288 t289 t290 t291 t292 (1 + ((l1.length : Int) % 7)) bt293.1 bt293.2 bt295.1 bt295.2 1 0 0))) = some r := H
      have A17 := Aside0.mk A170
      clear A170
      obtain ⟨ji18, hji18⟩ : ∃ j_ : Int, (shl .i64 (1 + ((l1.length : Int) % 7)) (t282.size : Int)) = j_ := ⟨_, rfl⟩
      replace H : ((impl_ParityWord.f k (wrap64 (t283 + (ji18))) (t282.size : Int)).bind fun bt293 => ((impl_AfterShort.f k (wrap64 (t283 + (ji18))) (t282.size : Int)).bind fun bt295 => (laws_FnParityWords.l0 k l1 t282 t283 (t282.size : Int) t287 t288 t289 t290 t291 t292 (1 + ((l1.length : Int) % 7)) bt293.1 bt293.2 bt295.1 bt295.2 1 0 0))) = some r := by first | (rw [hji18] at H; exact H) | (simp only [hji18] at H ⊢; exact H)
      (try rw [hji18] at A15)
      (try rw [hji18] at A16)
      (try rw [hji18] at A17)
      have hji18_ : (IntKind.i64.wrap ((1 + ((l1.length : Int) % 7)) * 2 ^ min (t282.size : Int).toNat 64)) = ji18 := hji18
      have hji18z : (t282.size : Int) ≤ 64 → (IntKind.i64.wrap ((1 + ((l1.length : Int) % 7)) * 2 ^ (t282.size : Int).toNat)) = ji18 := shl_small hji18
      have hji18y : (wrap64 ((1 + ((l1.length : Int) % 7)) * 2 ^ min (t282.size : Int).toNat 64)) = ji18 := (i64_w _).symm.trans hji18_
      have hji18x : (t282.size : Int) ≤ 64 → (wrap64 ((1 + ((l1.length : Int) % 7)) * 2 ^ (t282.size : Int).toNat)) = ji18 := fun h_ => (i64_w _).symm.trans (hji18z h_)
      replace H := Option.bind_eq_some_iff.mp H
      obtain ⟨⟨t293, t294⟩, A190, H⟩ := H
      replace H : ((impl_AfterShort.f k (wrap64 (t283 + (ji18))) (t282.size : Int)).bind fun bt295 => (laws_FnParityWords.l0 k l1 t282 t283 (t282.size : Int) t287 t288 t289 t290 t291 t292 (1 + ((l1.length : Int) % 7)) t293 t294 bt295.1 bt295.2 1 0 0)) = some r := H
      have A19 := Aside0.mk A190
      clear A190
      replace H := Option.bind_eq_some_iff.mp H
      obtain ⟨⟨t295, t296⟩, A200, H⟩ := H
      replace H : (laws_FnParityWords.l0 k l1 t282 t283 (t282.size : Int) t287 t288 t289 t290 t291 t292 (1 + ((l1.length : Int) % 7)) t293 t294 t295 t296 1 0 0) = some r := H
      have A20 := Aside0.mk A200
      clear A200
      have H' := Aside0.mk H
      clear H
      have hshl_ : wrap64 ((1 + (l1.length : Int) % 7) * 2 ^ min t282.size 64) = shl .i64 (1 + ((l1.length : Int) % 7)) (t282.size : Int) := by unfold shl; rw [i64_w]; rfl
      go_wp2_with (first | ((with_reducible refine gate_callee (f := 26) rfl ?_); refine goesL_ (some 75) rfl rfl Try.func26 (by kernel_rfl) rfl #[.int .i64 t283, .int .i64 (t282.size : Int)] rfl (by (try simp only [List.map_toArray, List.map_cons, List.map_nil]); first | done | rfl | (simp only [List.length_drop, List.length_take]; rfl)) ?_; (with_reducible refine (impl_ParityWord.calls k t283 (t282.size : Int) t287 t288 _ A15.out).mono ?_); rintro e w21 ⟨rfl, hb⟩; refine ⟨_, rfl, ?_⟩; have n0_ := Aside0.mk (below_step (by repeat (first | (with_reducible first | exact HB.out | apply below_alloc | apply pw_below_drewN | apply below_drew1) | exact HB.out)) hb); clear HB; have HB := n0_; clear n0_; (try clear hb); (try clear hb2); (try clear hk); (try clear hi)) | ((with_reducible refine gate_callee (f := 27) rfl ?_); refine goesL_ (some 81) rfl rfl Try.func27 (by kernel_rfl) rfl #[.int .i64 t283, .int .i64 (t282.size : Int)] rfl (by (try simp only [List.map_toArray, List.map_cons, List.map_nil]); first | done | rfl | (simp only [List.length_drop, List.length_take]; rfl)) ?_; (with_reducible refine (impl_OddCount.calls k t283 (t282.size : Int) t289 t290 _ A16.out).mono ?_); rintro e w22 ⟨rfl, hb⟩; refine ⟨_, rfl, ?_⟩; have n0_ := Aside0.mk (below_step (by repeat (first | (with_reducible first | exact HB.out | apply below_alloc | apply pw_below_drewN | apply below_drew1) | exact HB.out)) hb); clear HB; have HB := n0_; clear n0_; (try clear hb); (try clear hb2); (try clear hk); (try clear hi)) | ((with_reducible refine gate_callee (f := 28) rfl ?_); refine goesL_ (some 87) rfl rfl Try.func28 (by kernel_rfl) rfl #[.int .i64 t283, .int .i64 (t282.size : Int)] rfl (by (try simp only [List.map_toArray, List.map_cons, List.map_nil]); first | done | rfl | (simp only [List.length_drop, List.length_take]; rfl)) ?_; (with_reducible refine (impl_AfterShort.calls k t283 (t282.size : Int) t291 t292 _ A17.out).mono ?_); rintro e w23 ⟨rfl, hb⟩; refine ⟨_, rfl, ?_⟩; have n0_ := Aside0.mk (below_step (by repeat (first | (with_reducible first | exact HB.out | apply below_alloc | apply pw_below_drewN | apply below_drew1) | exact HB.out)) hb); clear HB; have HB := n0_; clear n0_; (try clear hb); (try clear hb2); (try clear hk); (try clear hi)) | ((with_reducible refine gate_callee (f := 26) rfl ?_); refine goesL_ (some 102) rfl rfl Try.func26 (by kernel_rfl) rfl #[.int .i64 (wrap64 (t283 + (ji18))), .int .i64 (t282.size : Int)] rfl (by (try simp only [List.map_toArray, List.map_cons, List.map_nil]); first | done | (simp only [hji18]; rfl) | rfl | (simp only [List.length_drop, List.length_take]; rfl)) ?_; (with_reducible refine (impl_ParityWord.calls k (wrap64 (t283 + (ji18))) (t282.size : Int) t293 t294 _ A19.out).mono ?_); rintro e w24 ⟨rfl, hb⟩; refine ⟨_, rfl, ?_⟩; have n0_ := Aside0.mk (below_step (by repeat (first | (with_reducible first | exact HB.out | apply below_alloc | apply pw_below_drewN | apply below_drew1) | exact HB.out)) hb); clear HB; have HB := n0_; clear n0_; (try clear hb); (try clear hb2); (try clear hk); (try clear hi)) | ((with_reducible refine gate_callee (f := 28) rfl ?_); refine goesL_ (some 108) rfl rfl Try.func28 (by kernel_rfl) rfl #[.int .i64 (wrap64 (t283 + (ji18))), .int .i64 (t282.size : Int)] rfl (by (try simp only [List.map_toArray, List.map_cons, List.map_nil]); first | done | (simp only [hji18]; rfl) | rfl | (simp only [List.length_drop, List.length_take]; rfl)) ?_; (with_reducible refine (impl_AfterShort.calls k (wrap64 (t283 + (ji18))) (t282.size : Int) t295 t296 _ A20.out).mono ?_); rintro e w25 ⟨rfl, hb⟩; refine ⟨_, rfl, ?_⟩; have n0_ := Aside0.mk (below_step (by repeat (first | (with_reducible first | exact HB.out | apply below_alloc | apply pw_below_drewN | apply below_drew1) | exact HB.out)) hb); clear HB; have HB := n0_; clear n0_; (try clear hb); (try clear hb2); (try clear hk); (try clear hi)))
      clear hshl_
      go_loopg [23, 24, 25] k (fun kq v23 v24 v25 w' => ∃ (x23_1 : Int) (x24_1 : Int) (x25_1 : Int), v23 = .int .i64 x23_1 ∧ v24 = .int .i64 x24_1 ∧ v25 = .int .i64 x25_1 ∧ Aside0 (laws_FnParityWords.l0 kq l1 t282 t283 (t282.size : Int) t287 t288 t289 t290 t291 t292 (1 + ((l1.length : Int) % 7)) t293 t294 t295 t296 x23_1 x24_1 x25_1 = some r) ∧ Aside0 (kq ≤ k) ∧ Aside0 (Below w.heap.size w w'))
      case atStart => exact ⟨(1), (0), (0), (by first | rfl | (simp; done) | (simp [*]; done)), (by first | rfl | (simp; done) | (simp [*]; done)), (by first | rfl | (simp; done) | (simp [*]; done)), H', ⟨Nat.le_refl _⟩, ⟨by repeat (first | (with_reducible first | exact HB.out | apply below_alloc | apply pw_below_drewN | apply below_drew1) | exact HB.out)⟩⟩
      case round =>
       clear H'
       try clear c1
       try clear c2
       try clear p2
       try clear c4
       try clear p6
       try clear c8
       try clear c8b0
       try clear c8b1
       try clear c8b2
       try clear c9
       try clear c9b0
       try clear c9b1
       try clear c14
       try clear c23
       try clear c24
       try clear c25
       obtain ⟨x23_1, x24_1, x25_1, rfl, rfl, rfl, HA, HK1, HB⟩ := hrel
       cases gk with
       | zero => exact absurd HA.out (by simp [laws_FnParityWords.l0])
       | succ k1 =>
        have H := HA.out
        clear HA
        simp only [laws_FnParityWords.l0] at H
        by_cases c26 : x25_1 < (t282.size : Int)
        ·rw [if_pos c26] at H
         have c26b0 : decide (x25_1 < (t282.size : Int)) = true := decide_eq_true c26
         clear c26
         (first | rw [c26b0] | (simp only [i64_w, i32_w]; rw [c26b0]) | skip)
         by_cases c27 : 0 ≤ x25_1
         ·rw [if_pos c27] at H
          have c27b0 : decide (0 ≤ x25_1) = true := decide_eq_true c27
          clear c27
          by_cases c28 : x25_1 < (t282.size : Int)
          ·rw [if_pos c28] at H
           have c28b0 : decide (x25_1 < (t282.size : Int)) = true := decide_eq_true c28
           clear c28
           by_cases c30 : (bt t282 x25_1) = 49
           ·rw [if_pos c30] at H
            have c30b0 : ((bt t282 x25_1) == 49) = true := beq_iff_eq.mpr c30
            have c30b1 : ((bt t282 x25_1) != 49) = false := bne_eq_false_iff_eq.mpr c30
            clear c30
            as_aux_lemma =>
             have H' := Aside0.mk H
             clear H
             have p29 : 0 ≤ (x25_1 : Int) := of_decide_eq_true (by first | (with_reducible assumption) | assumption)
             have q29 : x25_1 < (t282.size : Int) := of_decide_eq_true (by first | (with_reducible assumption) | assumption)
             have hx29 := bt_at t282 x25_1
             replace p29 := eq_true p29
             replace q29 := eq_true q29
             go_wp2
             go_roundg k1
             case measure => have := HK1.out; omega
             case rel => exact ⟨(wrap64 (x23_1 * 3)), (wrap64 (x24_1 + 1)), (wrap64 (x25_1 + 1)), (by first | rfl | (simp; done) | (simp [*]; done)), (by first | rfl | (simp; done) | (simp [*]; done)), (by first | rfl | (simp; done) | (simp [*]; done)), H', ⟨by have := HK1.out; omega⟩, ⟨by repeat (first | (with_reducible first | exact HB.out | apply below_alloc | apply pw_below_drewN | apply below_drew1) | exact HB.out)⟩⟩
           ·rw [if_neg c30] at H
            have c30b0 : ((bt t282 x25_1) == 49) = false := beq_eq_false_iff_ne.mpr c30
            have c30b1 : ((bt t282 x25_1) != 49) = true := bne_iff_ne.mpr c30
            as_aux_lemma =>
             have H' := Aside0.mk H
             clear H
             have p29 : 0 ≤ (x25_1 : Int) := of_decide_eq_true (by first | (with_reducible assumption) | assumption)
             have q29 : x25_1 < (t282.size : Int) := of_decide_eq_true (by first | (with_reducible assumption) | assumption)
             have hx29 := bt_at t282 x25_1
             replace p29 := eq_true p29
             replace q29 := eq_true q29
             go_wp2
             go_roundg k1
             case measure => have := HK1.out; omega
             case rel => exact ⟨(x23_1), (x24_1), (wrap64 (x25_1 + 1)), (by first | rfl | (simp; done) | (simp [*]; done)), (by first | rfl | (simp; done) | (simp [*]; done)), (by first | rfl | (simp; done) | (simp [*]; done)), H', ⟨by have := HK1.out; omega⟩, ⟨by repeat (first | (with_reducible first | exact HB.out | apply below_alloc | apply pw_below_drewN | apply below_drew1) | exact HB.out)⟩⟩
          ·rw [if_neg c28] at H
           exact absurd H (by simp)
         ·rw [if_neg c27] at H
          exact absurd H (by simp)
        ·rw [if_neg c26] at H
         have c26b0 : decide (x25_1 < (t282.size : Int)) = false := decide_eq_false c26
         clear c26
         (first | rw [c26b0] | (simp only [i64_w, i32_w]; rw [c26b0]) | skip)
         by_cases c31 : t283 < 1
         ·rw [if_pos c31] at H
          exact absurd H (by simp)
         ·rw [if_neg c31] at H
          have c31b0 : decide (t283 < 1) = false := decide_eq_false c31
          clear c31
          by_cases c32 : 0 ≤ (t282.size : Int)
          ·rw [if_pos c32] at H
           have c32b0 := eq_true c32
           have c32b1 : decide (0 ≤ (t282.size : Int)) = true := decide_eq_true c32
           clear c32
           obtain ⟨ji33, hji33⟩ : ∃ j_ : Int, (shl .i64 1 (t282.size : Int)) = j_ := ⟨_, rfl⟩
           replace H : (if t283 > (ji33) then (none) else (if t288 = true then (if t287.toList = t282.toList then (if t290 = true then (if t289 = x24_1 then (if t292 = true then (if t294 = true then (if t293.toList = t282.toList then (if t296 = true then (if t295 = (wrap64 (t291 + (wrap64 ((1 + ((l1.length : Int) % 7)) * x23_1)))) then (laws_FnParityWords.j1 k1 l1) else (none)) else (none)) else (none)) else (none)) else (none)) else (none)) else (none)) else (none)) else (none))) = some r := by first | (rw [hji33] at H; exact H) | (simp only [hji33] at H ⊢; exact H)
           have hji33_ : (IntKind.i64.wrap (1 * 2 ^ min (t282.size : Int).toNat 64)) = ji33 := hji33
           have hji33z : (t282.size : Int) ≤ 64 → (IntKind.i64.wrap (1 * 2 ^ (t282.size : Int).toNat)) = ji33 := shl_small hji33
           have hji33u : (IntKind.i64.wrap (2 ^ min (t282.size : Int).toNat 64)) = ji33 := by have h_ := hji33_; rw [Int.one_mul] at h_; exact h_
           have hji33v : (t282.size : Int) ≤ 64 → (IntKind.i64.wrap (2 ^ (t282.size : Int).toNat)) = ji33 := fun hle_ => by have h_ := hji33z hle_; rw [Int.one_mul] at h_; exact h_
           have hji33y : (wrap64 (1 * 2 ^ min (t282.size : Int).toNat 64)) = ji33 := (i64_w _).symm.trans hji33_
           have hji33x : (t282.size : Int) ≤ 64 → (wrap64 (1 * 2 ^ (t282.size : Int).toNat)) = ji33 := fun h_ => (i64_w _).symm.trans (hji33z h_)
           by_cases c34 : t283 > (ji33)
           ·rw [if_pos c34] at H
            exact absurd H (by simp)
           ·rw [if_neg c34] at H
            have c34b0 : decide ((ji33) < t283) = false := decide_eq_false c34
            clear c34
            by_cases c35 : t288 = true
            ·subst c35
             have H1 : (if t287.toList = t282.toList then (if t290 = true then (if t289 = x24_1 then (if t292 = true then (if t294 = true then (if t293.toList = t282.toList then (if t296 = true then (if t295 = (wrap64 (t291 + (wrap64 ((1 + ((l1.length : Int) % 7)) * x23_1)))) then (laws_FnParityWords.j1 k1 l1) else (none)) else (none)) else (none)) else (none)) else (none)) else (none)) else (none)) else (none)) = some r := by rw [if_pos rfl] at H; exact H
             clear H
             have H := H1
             clear H1
             by_cases c36 : t287.toList = t282.toList
             ·rw [if_pos c36] at H
              have c36b0 : (t287.toList == t282.toList) = true := beq_iff_eq.mpr c36
              have c36b1 : (t287.toList != t282.toList) = false := bne_eq_false_iff_eq.mpr c36
              clear c36
              by_cases c37 : t290 = true
              ·subst c37
               have H1 : (if t289 = x24_1 then (if t292 = true then (if t294 = true then (if t293.toList = t282.toList then (if t296 = true then (if t295 = (wrap64 (t291 + (wrap64 ((1 + ((l1.length : Int) % 7)) * x23_1)))) then (laws_FnParityWords.j1 k1 l1) else (none)) else (none)) else (none)) else (none)) else (none)) else (none)) = some r := by rw [if_pos rfl] at H; exact H
               clear H
               have H := H1
               clear H1
               by_cases c38 : t289 = x24_1
               ·rw [if_pos c38] at H
                have c38b0 : (t289 == x24_1) = true := beq_iff_eq.mpr c38
                have c38b1 : (t289 != x24_1) = false := bne_eq_false_iff_eq.mpr c38
                clear c38
                by_cases c39 : t292 = true
                ·subst c39
                 have H1 : (if t294 = true then (if t293.toList = t282.toList then (if t296 = true then (if t295 = (wrap64 (t291 + (wrap64 ((1 + ((l1.length : Int) % 7)) * x23_1)))) then (laws_FnParityWords.j1 k1 l1) else (none)) else (none)) else (none)) else (none)) = some r := by rw [if_pos rfl] at H; exact H
                 clear H
                 have H := H1
                 clear H1
                 by_cases c40 : t294 = true
                 ·subst c40
                  have H1 : (if t293.toList = t282.toList then (if t296 = true then (if t295 = (wrap64 (t291 + (wrap64 ((1 + ((l1.length : Int) % 7)) * x23_1)))) then (laws_FnParityWords.j1 k1 l1) else (none)) else (none)) else (none)) = some r := by rw [if_pos rfl] at H; exact H
                  clear H
                  have H := H1
                  clear H1
                  by_cases c41 : t293.toList = t282.toList
                  ·rw [if_pos c41] at H
                   have c41b0 : (t293.toList == t282.toList) = true := beq_iff_eq.mpr c41
                   have c41b1 : (t293.toList != t282.toList) = false := bne_eq_false_iff_eq.mpr c41
                   clear c41
                   by_cases c42 : t296 = true
                   ·subst c42
                    have H1 : (if t295 = (wrap64 (t291 + (wrap64 ((1 + ((l1.length : Int) % 7)) * x23_1)))) then (laws_FnParityWords.j1 k1 l1) else (none)) = some r := by rw [if_pos rfl] at H; exact H
                    clear H
                    have H := H1
                    clear H1
                    by_cases c43 : t295 = (wrap64 (t291 + (wrap64 ((1 + ((l1.length : Int) % 7)) * x23_1))))
                    ·rw [if_pos c43] at H
                     have c43b0 : (t295 == (wrap64 (t291 + (wrap64 ((1 + ((l1.length : Int) % 7)) * x23_1))))) = true := beq_iff_eq.mpr c43
                     have c43b1 : (t295 != (wrap64 (t291 + (wrap64 ((1 + ((l1.length : Int) % 7)) * x23_1))))) = false := bne_eq_false_iff_eq.mpr c43
                     clear c43
                     as_aux_lemma =>
                      have H' := Aside0.mk H
                      clear H
                      have hs1_ : wrap64 (2 ^ min t282.size 64) = ji33 := by rw [← hji33]; unfold shl; rw [i64_w, Int.one_mul]; rfl
                      have hs2_ : wrap64 (1 * 2 ^ min t282.size 64) = ji33 := by rw [← hji33]; unfold shl; rw [i64_w]; rfl
                      clear hji18y hji18x hji33y hji33x
                      go_wp2
                      go_meet
                      case rel => exact ⟨_, H', ⟨by have := HK1.out; first | omega | exact Nat.le_refl _⟩, ⟨by repeat (first | (with_reducible first | exact HB.out | apply below_alloc | apply pw_below_drewN | apply below_drew1) | exact HB.out)⟩⟩
                    ·rw [if_neg c43] at H
                     exact absurd H (by simp)
                   ·replace c42 := Bool.eq_false_iff.mpr c42
                    subst c42
                    have H1 : (none) = some r := by rw [if_neg (show ¬ (false = true) by decide)] at H; exact H
                    clear H
                    have H := H1
                    clear H1
                    exact absurd H (by simp)
                  ·rw [if_neg c41] at H
                   exact absurd H (by simp)
                 ·replace c40 := Bool.eq_false_iff.mpr c40
                  subst c40
                  have H1 : (none) = some r := by rw [if_neg (show ¬ (false = true) by decide)] at H; exact H
                  clear H
                  have H := H1
                  clear H1
                  exact absurd H (by simp)
                ·replace c39 := Bool.eq_false_iff.mpr c39
                 subst c39
                 have H1 : (none) = some r := by rw [if_neg (show ¬ (false = true) by decide)] at H; exact H
                 clear H
                 have H := H1
                 clear H1
                 exact absurd H (by simp)
               ·rw [if_neg c38] at H
                exact absurd H (by simp)
              ·replace c37 := Bool.eq_false_iff.mpr c37
               subst c37
               have H1 : (none) = some r := by rw [if_neg (show ¬ (false = true) by decide)] at H; exact H
               clear H
               have H := H1
               clear H1
               exact absurd H (by simp)
             ·rw [if_neg c36] at H
              exact absurd H (by simp)
            ·replace c35 := Bool.eq_false_iff.mpr c35
             subst c35
             have H1 : (none) = some r := by rw [if_neg (show ¬ (false = true) by decide)] at H; exact H
             clear H
             have H := H1
             clear H1
             exact absurd H (by simp)
          ·rw [if_neg c32] at H
           exact absurd H (by simp)
     ·replace c14 := Bool.eq_false_iff.mpr c14
      subst c14
      have H1 : (laws_FnParityWords.j1 k l1) = some r := by rw [if_neg (show ¬ (false = true) by decide)] at H; exact H
      clear H
      have H := H1
      clear H1
      as_aux_lemma =>
       have H' := Aside0.mk H
       clear H
       go_wp2
       go_meet
       case rel => exact ⟨_, H', ⟨by first | omega | exact Nat.le_refl _⟩, ⟨by repeat (first | (with_reducible first | exact HB.out | apply below_alloc | apply pw_below_drewN | apply below_drew1) | exact HB.out)⟩⟩
    case rest =>
     clear HC10
     try clear c1
     try clear c2
     try clear p2
     try clear q2
     try clear hx2
     try clear c3
     try clear c4
     try clear p6
     try clear c8
     try clear c8b0
     try clear c8b1
     try clear c8b2
     try clear c9
     try clear c9b0
     try clear c9b1
     try clear c14
     try clear c23
     try clear c24
     try clear c25
     try clear c26
     try clear c26b0
     try clear c27
     try clear c27b0
     try clear c28
     try clear c28b0
     try clear p29
     try clear q29
     try clear hx29
     try clear c30
     try clear c30b0
     try clear c30b1
     try clear c31
     try clear c31b0
     try clear c32
     try clear c32b0
     try clear c32b1
     try clear c34
     try clear c34b0
     try clear c35
     try clear c36
     try clear c36b0
     try clear c36b1
     try clear c37
     try clear c38
     try clear c38b0
     try clear c38b1
     try clear c39
     try clear c40
     try clear c41
     try clear c41b0
     try clear c41b1
     try clear c42
     try clear c43
     try clear c43b0
     try clear c43b1
     try clear p2
     try clear p29
     try clear p6
     try clear q29
     obtain ⟨kq, HA, HJ9, HB⟩ := hcut
     cases kq with
     | zero => exact absurd HA.out (by simp [laws_FnParityWords.j1])
     | succ kj9 =>
      have H := HA.out
      clear HA
      simp only [laws_FnParityWords.j1] at H
      replace H := Option.bind_eq_some_iff.mp H
      obtain ⟨⟨t297, t298⟩, A440, H⟩ := H
      replace H : ((impl_ParityWord.f kj9 t297 t298).bind fun bt299 => ((spec_ParityWord.f kj9 t297 t298).bind fun bt301 => ((impl_OddCount.f kj9 t297 t298).bind fun bt303 => ((spec_OddCount.f kj9 t297 t298).bind fun bt305 => ((impl_AfterShort.f kj9 t297 t298).bind fun bt307 => ((spec_AfterShort.f kj9 t297 t298).bind fun bt309 => (if (bt299.2 != bt301.2) = true then (none) else (if bt299.1.toList = bt301.1.toList then (if (bt303.2 != bt305.2) = true then (none) else (if bt303.1 = bt305.1 then (if (bt307.2 != bt309.2) = true then (none) else (if bt307.1 = bt309.1 then (if (bt303.2 != bt299.2) = true then (none) else (if bt299.2 = true then ((impl_NumberOfWord.f kj9 bt299.1).bind fun bt311 => (if bt311.2 = true then (if 0 ≤ t298 then (if (shl .i64 1 t298) = 0 then (none) else (if (Int.tmod (wrap64 (t297 - bt311.1)) (shl .i64 1 t298)) = 0 then (laws_FnParityWords.l1 kj9 t298 bt299.1 bt307.1 bt307.2 t297 0) else (none))) else (none)) else (none))) else (some true))) else (none))) else (none))) else (none))))))))) = some r := H
      have A44 := Aside0.mk A440
      clear A440
      replace H := Option.bind_eq_some_iff.mp H
      obtain ⟨⟨t299, t300⟩, A450, H⟩ := H
      replace H : ((spec_ParityWord.f kj9 t297 t298).bind fun bt301 => ((impl_OddCount.f kj9 t297 t298).bind fun bt303 => ((spec_OddCount.f kj9 t297 t298).bind fun bt305 => ((impl_AfterShort.f kj9 t297 t298).bind fun bt307 => ((spec_AfterShort.f kj9 t297 t298).bind fun bt309 => (if (t300 != bt301.2) = true then (none) else (if t299.toList = bt301.1.toList then (if (bt303.2 != bt305.2) = true then (none) else (if bt303.1 = bt305.1 then (if (bt307.2 != bt309.2) = true then (none) else (if bt307.1 = bt309.1 then (if (bt303.2 != t300) = true then (none) else (if t300 = true then ((impl_NumberOfWord.f kj9 t299).bind fun bt311 => (if bt311.2 = true then (if 0 ≤ t298 then (if (shl .i64 1 t298) = 0 then (none) else (if (Int.tmod (wrap64 (t297 - bt311.1)) (shl .i64 1 t298)) = 0 then (laws_FnParityWords.l1 kj9 t298 t299 bt307.1 bt307.2 t297 0) else (none))) else (none)) else (none))) else (some true))) else (none))) else (none))) else (none)))))))) = some r := H
      have A45 := Aside0.mk A450
      clear A450
      replace H := Option.bind_eq_some_iff.mp H
      obtain ⟨⟨t301, t302⟩, A460, H⟩ := H
      replace H : ((impl_OddCount.f kj9 t297 t298).bind fun bt303 => ((spec_OddCount.f kj9 t297 t298).bind fun bt305 => ((impl_AfterShort.f kj9 t297 t298).bind fun bt307 => ((spec_AfterShort.f kj9 t297 t298).bind fun bt309 => (if (t300 != t302) = true then (none) else (if t299.toList = t301.toList then (if (bt303.2 != bt305.2) = true then (none) else (if bt303.1 = bt305.1 then (if (bt307.2 != bt309.2) = true then (none) else (if bt307.1 = bt309.1 then (if (bt303.2 != t300) = true then (none) else (if t300 = true then ((impl_NumberOfWord.f kj9 t299).bind fun bt311 => (if bt311.2 = true then (if 0 ≤ t298 then (if (shl .i64 1 t298) = 0 then (none) else (if (Int.tmod (wrap64 (t297 - bt311.1)) (shl .i64 1 t298)) = 0 then (laws_FnParityWords.l1 kj9 t298 t299 bt307.1 bt307.2 t297 0) else (none))) else (none)) else (none))) else (some true))) else (none))) else (none))) else (none))))))) = some r := H
      have A46 := Aside0.mk A460
      clear A460
      replace H := Option.bind_eq_some_iff.mp H
      obtain ⟨⟨t303, t304⟩, A470, H⟩ := H
      replace H : ((spec_OddCount.f kj9 t297 t298).bind fun bt305 => ((impl_AfterShort.f kj9 t297 t298).bind fun bt307 => ((spec_AfterShort.f kj9 t297 t298).bind fun bt309 => (if (t300 != t302) = true then (none) else (if t299.toList = t301.toList then (if (t304 != bt305.2) = true then (none) else (if t303 = bt305.1 then (if (bt307.2 != bt309.2) = true then (none) else (if bt307.1 = bt309.1 then (if (t304 != t300) = true then (none) else (if t300 = true then ((impl_NumberOfWord.f kj9 t299).bind fun bt311 => (if bt311.2 = true then (if 0 ≤ t298 then (if (shl .i64 1 t298) = 0 then (none) else (if (Int.tmod (wrap64 (t297 - bt311.1)) (shl .i64 1 t298)) = 0 then (laws_FnParityWords.l1 kj9 t298 t299 bt307.1 bt307.2 t297 0) else (none))) else (none)) else (none))) else (some true))) else (none))) else (none))) else (none)))))) = some r := H
      have A47 := Aside0.mk A470
      clear A470
      replace H := Option.bind_eq_some_iff.mp H
      obtain ⟨⟨t305, t306⟩, A480, H⟩ := H
      replace H : ((impl_AfterShort.f kj9 t297 t298).bind fun bt307 => ((spec_AfterShort.f kj9 t297 t298).bind fun bt309 => (if (t300 != t302) = true then (none) else (if t299.toList = t301.toList then (if (t304 != t306) = true then (none) else (if t303 = t305 then (if (bt307.2 != bt309.2) = true then (none) else (if bt307.1 = bt309.1 then (if (t304 != t300) = true then (none) else (if t300 = true then ((impl_NumberOfWord.f kj9 t299).bind fun bt311 => (if bt311.2 = true then (if 0 ≤ t298 then (if (shl .i64 1 t298) = 0 then (none) else (if (Int.tmod (wrap64 (t297 - bt311.1)) (shl .i64 1 t298)) = 0 then (laws_FnParityWords.l1 kj9 t298 t299 bt307.1 bt307.2 t297 0) else (none))) else (none)) else (none))) else (some true))) else (none))) else (none))) else (none))))) = some r := H
      have A48 := Aside0.mk A480
      clear A480
      replace H := Option.bind_eq_some_iff.mp H
      obtain ⟨⟨t307, t308⟩, A490, H⟩ := H
      replace H : ((spec_AfterShort.f kj9 t297 t298).bind fun bt309 => (if (t300 != t302) = true then (none) else (if t299.toList = t301.toList then (if (t304 != t306) = true then (none) else (if t303 = t305 then (if (t308 != bt309.2) = true then (none) else (if t307 = bt309.1 then (if (t304 != t300) = true then (none) else (if t300 = true then ((impl_NumberOfWord.f kj9 t299).bind fun bt311 => (if bt311.2 = true then (if 0 ≤ t298 then (if (shl .i64 1 t298) = 0 then (none) else (if (Int.tmod (wrap64 (t297 - bt311.1)) (shl .i64 1 t298)) = 0 then (laws_FnParityWords.l1 kj9 t298 t299 t307 t308 t297 0) else (none))) else (none)) else (none))) else (some true))) else (none))) else (none))) else (none)))) = some r := H
      have A49 := Aside0.mk A490
      clear A490
      replace H := Option.bind_eq_some_iff.mp H
      obtain ⟨⟨t309, t310⟩, A500, H⟩ := H
      replace H : (if (t300 != t302) = true then (none) else (if t299.toList = t301.toList then (if (t304 != t306) = true then (none) else (if t303 = t305 then (if (t308 != t310) = true then (none) else (if t307 = t309 then (if (t304 != t300) = true then (none) else (if t300 = true then ((impl_NumberOfWord.f kj9 t299).bind fun bt311 => (if bt311.2 = true then (if 0 ≤ t298 then (if (shl .i64 1 t298) = 0 then (none) else (if (Int.tmod (wrap64 (t297 - bt311.1)) (shl .i64 1 t298)) = 0 then (laws_FnParityWords.l1 kj9 t298 t299 t307 t308 t297 0) else (none))) else (none)) else (none))) else (some true))) else (none))) else (none))) else (none))) = some r := H
      have A50 := Aside0.mk A500
      clear A500
      by_cases c51 : (t300 != t302) = true
      ·rw [if_pos c51] at H
       exact absurd H (by simp)
      ·rw [if_neg c51] at H
       have c51b0 : (t300 != t302) = false := by simpa using c51
       (try (have c51b1 : decide (t300 = t302) = true := by simpa using c51))
       (try (have c51b2 : (t300 == t302) = true := by simpa using c51))
       clear c51
       by_cases c52 : t299.toList = t301.toList
       ·rw [if_pos c52] at H
        have c52b0 : (t299.toList == t301.toList) = true := beq_iff_eq.mpr c52
        have c52b1 : (t299.toList != t301.toList) = false := bne_eq_false_iff_eq.mpr c52
        clear c52
        by_cases c53 : (t304 != t306) = true
        ·rw [if_pos c53] at H
         exact absurd H (by simp)
        ·rw [if_neg c53] at H
         have c53b0 : (t304 != t306) = false := by simpa using c53
         (try (have c53b1 : decide (t304 = t306) = true := by simpa using c53))
         (try (have c53b2 : (t304 == t306) = true := by simpa using c53))
         clear c53
         by_cases c54 : t303 = t305
         ·rw [if_pos c54] at H
          have c54b0 : (t303 == t305) = true := beq_iff_eq.mpr c54
          have c54b1 : (t303 != t305) = false := bne_eq_false_iff_eq.mpr c54
          clear c54
          by_cases c55 : (t308 != t310) = true
          ·rw [if_pos c55] at H
           exact absurd H (by simp)
          ·rw [if_neg c55] at H
           have c55b0 : (t308 != t310) = false := by simpa using c55
           (try (have c55b1 : decide (t308 = t310) = true := by simpa using c55))
           (try (have c55b2 : (t308 == t310) = true := by simpa using c55))
           clear c55
           by_cases c56 : t307 = t309
           ·rw [if_pos c56] at H
            have c56b0 : (t307 == t309) = true := beq_iff_eq.mpr c56
            have c56b1 : (t307 != t309) = false := bne_eq_false_iff_eq.mpr c56
            clear c56
            by_cases c57 : (t304 != t300) = true
            ·rw [if_pos c57] at H
             exact absurd H (by simp)
            ·rw [if_neg c57] at H
             have c57b0 : (t304 != t300) = false := by simpa using c57
             (try (have c57b1 : decide (t304 = t300) = true := by simpa using c57))
             (try (have c57b2 : (t304 == t300) = true := by simpa using c57))
             clear c57
             by_cases c58 : t300 = true
             ·subst c58
              have H1 : ((impl_NumberOfWord.f kj9 t299).bind fun bt311 => (if bt311.2 = true then (if 0 ≤ t298 then (if (shl .i64 1 t298) = 0 then (none) else (if (Int.tmod (wrap64 (t297 - bt311.1)) (shl .i64 1 t298)) = 0 then (laws_FnParityWords.l1 kj9 t298 t299 t307 t308 t297 0) else (none))) else (none)) else (none))) = some r := by rw [if_pos rfl] at H; exact H
              clear H
              have H := H1
              clear H1
              replace H := Option.bind_eq_some_iff.mp H
              obtain ⟨⟨t311, t312⟩, A590, H⟩ := H
              replace H : (if t312 = true then (if 0 ≤ t298 then (if (shl .i64 1 t298) = 0 then (none) else (if (Int.tmod (wrap64 (t297 - t311)) (shl .i64 1 t298)) = 0 then (laws_FnParityWords.l1 kj9 t298 t299 t307 t308 t297 0) else (none))) else (none)) else (none)) = some r := H
              have A59 := Aside0.mk A590
              clear A590
              by_cases c60 : t312 = true
              ·subst c60
               have H1 : (if 0 ≤ t298 then (if (shl .i64 1 t298) = 0 then (none) else (if (Int.tmod (wrap64 (t297 - t311)) (shl .i64 1 t298)) = 0 then (laws_FnParityWords.l1 kj9 t298 t299 t307 t308 t297 0) else (none))) else (none)) = some r := by rw [if_pos rfl] at H; exact H
               clear H
               have H := H1
               clear H1
               by_cases c61 : 0 ≤ t298
               ·rw [if_pos c61] at H
                have c61b0 := eq_true c61
                have c61b1 : decide (0 ≤ t298) = true := decide_eq_true c61
                clear c61
                obtain ⟨ji62, hji62⟩ : ∃ j_ : Int, (shl .i64 1 t298) = j_ := ⟨_, rfl⟩
                replace H : (if (ji62) = 0 then (none) else (if (Int.tmod (wrap64 (t297 - t311)) (ji62)) = 0 then (laws_FnParityWords.l1 kj9 t298 t299 t307 t308 t297 0) else (none))) = some r := by first | (rw [hji62] at H; exact H) | (simp only [hji62] at H ⊢; exact H)
                (try rw [hji62] at A44)
                (try rw [hji62] at A45)
                (try rw [hji62] at A46)
                (try rw [hji62] at A47)
                (try rw [hji62] at A48)
                (try rw [hji62] at A49)
                (try rw [hji62] at A50)
                (try rw [hji62] at A59)
                have hji62_ : (IntKind.i64.wrap (1 * 2 ^ min t298.toNat 64)) = ji62 := hji62
                have hji62z : t298 ≤ 64 → (IntKind.i64.wrap (1 * 2 ^ t298.toNat)) = ji62 := shl_small hji62
                have hji62u : (IntKind.i64.wrap (2 ^ min t298.toNat 64)) = ji62 := by have h_ := hji62_; rw [Int.one_mul] at h_; exact h_
                have hji62v : t298 ≤ 64 → (IntKind.i64.wrap (2 ^ t298.toNat)) = ji62 := fun hle_ => by have h_ := hji62z hle_; rw [Int.one_mul] at h_; exact h_
                have hji62y : (wrap64 (1 * 2 ^ min t298.toNat 64)) = ji62 := (i64_w _).symm.trans hji62_
                have hji62x : t298 ≤ 64 → (wrap64 (1 * 2 ^ t298.toNat)) = ji62 := fun h_ => (i64_w _).symm.trans (hji62z h_)
                by_cases c63 : (ji62) = 0
                ·rw [if_pos c63] at H
                 exact absurd H (by simp)
                ·rw [if_neg c63] at H
                 have c63b0 : ((ji62) == 0) = false := beq_eq_false_iff_ne.mpr c63
                 have c63b1 : ((ji62) != 0) = true := bne_iff_ne.mpr c63
                 by_cases c64 : (Int.tmod (wrap64 (t297 - t311)) (ji62)) = 0
                 ·rw [if_pos c64] at H
                  have c64b0 : ((Int.tmod (wrap64 (t297 - t311)) (ji62)) == 0) = true := beq_iff_eq.mpr c64
                  have c64b1 : ((Int.tmod (wrap64 (t297 - t311)) (ji62)) != 0) = false := bne_eq_false_iff_eq.mpr c64
                  clear c64
                  have H' := Aside0.mk H
                  clear H
                  go_wp2_with (first | ((with_reducible refine gate_callee (f := 29) rfl ?_); refine goesL_ (some 178) rfl rfl Try.func29 (by kernel_rfl) rfl #[.slice A1 l1.length c1] rfl (by (try simp only [List.map_toArray, List.map_cons, List.map_nil]); first | done | rfl | (simp only [List.length_drop, List.length_take]; rfl)) ?_; (with_reducible refine (spec_DrawParityWord.calls kj9 _ _ l1 t297 t298 _ ?side1 ?side2 A44.out).mono ?_); (case side1 => repeat (first | exact (Kd.C_below HR1.out HB.out) | (with_reducible refine Kd.C_alloc ?_ _) | (with_reducible refine Kd.C_drewN ?_ _) | (with_reducible refine Kd.C_drew ?_))); (case side2 => exact HC1.out); rintro e w65 ⟨rfl, hb⟩; refine ⟨_, rfl, ?_⟩; have n0_ := Aside0.mk (below_step (by repeat (first | (with_reducible first | exact HB.out | apply below_alloc | apply pw_below_drewN | apply below_drew1) | exact HB.out)) hb); clear HB; have HB := n0_; clear n0_; (try clear hb); (try clear hb2); (try clear hk); (try clear hi)) | ((with_reducible refine gate_callee (f := 26) rfl ?_); refine goesL_ (some 184) rfl rfl Try.func26 (by kernel_rfl) rfl #[.int .i64 t297, .int .i64 t298] rfl (by (try simp only [List.map_toArray, List.map_cons, List.map_nil]); first | done | rfl | (simp only [List.length_drop, List.length_take]; rfl)) ?_; (with_reducible refine (impl_ParityWord.calls kj9 t297 t298 t299 true _ A45.out).mono ?_); rintro e w66 ⟨rfl, hb⟩; refine ⟨_, rfl, ?_⟩; have n0_ := Aside0.mk (below_step (by repeat (first | (with_reducible first | exact HB.out | apply below_alloc | apply pw_below_drewN | apply below_drew1) | exact HB.out)) hb); clear HB; have HB := n0_; clear n0_; (try clear hb); (try clear hb2); (try clear hk); (try clear hi)) | ((with_reducible refine gate_callee (f := 30) rfl ?_); refine goesL_ (some 190) rfl rfl Try.func30 (by kernel_rfl) rfl #[.int .i64 t297, .int .i64 t298] rfl (by (try simp only [List.map_toArray, List.map_cons, List.map_nil]); first | done | rfl | (simp only [List.length_drop, List.length_take]; rfl)) ?_; (with_reducible refine (spec_ParityWord.calls kj9 t297 t298 t301 t302 _ A46.out).mono ?_); rintro e w67 ⟨rfl, hb⟩; refine ⟨_, rfl, ?_⟩; have n0_ := Aside0.mk (below_step (by repeat (first | (with_reducible first | exact HB.out | apply below_alloc | apply pw_below_drewN | apply below_drew1) | exact HB.out)) hb); clear HB; have HB := n0_; clear n0_; (try clear hb); (try clear hb2); (try clear hk); (try clear hi)) | ((with_reducible refine gate_callee (f := 27) rfl ?_); refine goesL_ (some 196) rfl rfl Try.func27 (by kernel_rfl) rfl #[.int .i64 t297, .int .i64 t298] rfl (by (try simp only [List.map_toArray, List.map_cons, List.map_nil]); first | done | rfl | (simp only [List.length_drop, List.length_take]; rfl)) ?_; (with_reducible refine (impl_OddCount.calls kj9 t297 t298 t303 t304 _ A47.out).mono ?_); rintro e w68 ⟨rfl, hb⟩; refine ⟨_, rfl, ?_⟩; have n0_ := Aside0.mk (below_step (by repeat (first | (with_reducible first | exact HB.out | apply below_alloc | apply pw_below_drewN | apply below_drew1) | exact HB.out)) hb); clear HB; have HB := n0_; clear n0_; (try clear hb); (try clear hb2); (try clear hk); (try clear hi)) | ((with_reducible refine gate_callee (f := 31) rfl ?_); refine goesL_ (some 202) rfl rfl Try.func31 (by kernel_rfl) rfl #[.int .i64 t297, .int .i64 t298] rfl (by (try simp only [List.map_toArray, List.map_cons, List.map_nil]); first | done | rfl | (simp only [List.length_drop, List.length_take]; rfl)) ?_; (with_reducible refine (spec_OddCount.calls kj9 t297 t298 t305 t306 _ A48.out).mono ?_); rintro e w69 ⟨rfl, hb⟩; refine ⟨_, rfl, ?_⟩; have n0_ := Aside0.mk (below_step (by repeat (first | (with_reducible first | exact HB.out | apply below_alloc | apply pw_below_drewN | apply below_drew1) | exact HB.out)) hb); clear HB; have HB := n0_; clear n0_; (try clear hb); (try clear hb2); (try clear hk); (try clear hi)) | ((with_reducible refine gate_callee (f := 28) rfl ?_); refine goesL_ (some 208) rfl rfl Try.func28 (by kernel_rfl) rfl #[.int .i64 t297, .int .i64 t298] rfl (by (try simp only [List.map_toArray, List.map_cons, List.map_nil]); first | done | rfl | (simp only [List.length_drop, List.length_take]; rfl)) ?_; (with_reducible refine (impl_AfterShort.calls kj9 t297 t298 t307 t308 _ A49.out).mono ?_); rintro e w70 ⟨rfl, hb⟩; refine ⟨_, rfl, ?_⟩; have n0_ := Aside0.mk (below_step (by repeat (first | (with_reducible first | exact HB.out | apply below_alloc | apply pw_below_drewN | apply below_drew1) | exact HB.out)) hb); clear HB; have HB := n0_; clear n0_; (try clear hb); (try clear hb2); (try clear hk); (try clear hi)) | ((with_reducible refine gate_callee (f := 32) rfl ?_); refine goesL_ (some 214) rfl rfl Try.func32 (by kernel_rfl) rfl #[.int .i64 t297, .int .i64 t298] rfl (by (try simp only [List.map_toArray, List.map_cons, List.map_nil]); first | done | rfl | (simp only [List.length_drop, List.length_take]; rfl)) ?_; (with_reducible refine (spec_AfterShort.calls kj9 t297 t298 t309 t310 _ A50.out).mono ?_); rintro e w71 ⟨rfl, hb⟩; refine ⟨_, rfl, ?_⟩; have n0_ := Aside0.mk (below_step (by repeat (first | (with_reducible first | exact HB.out | apply below_alloc | apply pw_below_drewN | apply below_drew1) | exact HB.out)) hb); clear HB; have HB := n0_; clear n0_; (try clear hb); (try clear hb2); (try clear hk); (try clear hi)) | ((with_reducible refine gate_callee (f := 24) rfl ?_); refine goesL_ (some 253) rfl rfl Try.func24 (by kernel_rfl) rfl #[.string t299] rfl (by (try simp only [List.map_toArray, List.map_cons, List.map_nil]); first | done | rfl | (simp only [List.length_drop, List.length_take]; rfl)) ?_; (with_reducible refine (impl_NumberOfWord.calls kj9 t299 t311 true _ A59.out).mono ?_); rintro e w72 ⟨rfl, hb⟩; refine ⟨_, rfl, ?_⟩; have n0_ := Aside0.mk (below_step (by repeat (first | (with_reducible first | exact HB.out | apply below_alloc | apply pw_below_drewN | apply below_drew1) | exact HB.out)) hb); clear HB; have HB := n0_; clear n0_; (try clear hb); (try clear hb2); (try clear hk); (try clear hi)))
                  go_loopg [42, 43] kj9 (fun kq v42 v43 w' => ∃ (x42_2 : Int) (x43_2 : Int), v42 = .int .i64 x42_2 ∧ v43 = .int .i64 x43_2 ∧ Aside0 (laws_FnParityWords.l1 kq t298 t299 t307 t308 x42_2 x43_2 = some r) ∧ Aside0 (kq ≤ kj9) ∧ Aside0 (Below w.heap.size w w'))
                  case atStart => exact ⟨(t297), (0), (by first | rfl | (simp; done) | (simp [*]; done)), (by first | rfl | (simp; done) | (simp [*]; done)), H', ⟨Nat.le_refl _⟩, ⟨by repeat (first | (with_reducible first | exact HB.out | apply below_alloc | apply pw_below_drewN | apply below_drew1) | exact HB.out)⟩⟩
                  case round =>
                   clear H'
                   try clear c1
                   try clear c2
                   try clear p2
                   try clear q2
                   try clear hx2
                   try clear c3
                   try clear c4
                   try clear c5
                   try clear c6
                   try clear p6
                   try clear c8
                   try clear c8b0
                   try clear c8b1
                   try clear c8b2
                   try clear c9
                   try clear c9b0
                   try clear c9b1
                   try clear c14
                   try clear c23
                   try clear c24
                   try clear c25
                   try clear c26
                   try clear c26b0
                   try clear c27
                   try clear c27b0
                   try clear c28
                   try clear c28b0
                   try clear c29
                   try clear p29
                   try clear q29
                   try clear hx29
                   try clear c30
                   try clear c30b0
                   try clear c30b1
                   try clear c31
                   try clear c31b0
                   try clear c32
                   try clear c32b0
                   try clear c32b1
                   try clear c34
                   try clear c34b0
                   try clear c35
                   try clear c36
                   try clear c36b0
                   try clear c36b1
                   try clear c37
                   try clear c38
                   try clear c38b0
                   try clear c38b1
                   try clear c39
                   try clear c40
                   try clear c41
                   try clear c41b0
                   try clear c41b1
                   try clear c42
                   try clear c43
                   try clear c43b0
                   try clear c43b1
                   try clear c51
                   try clear c51b0
                   try clear c51b1
                   try clear c51b2
                   try clear c52
                   try clear c52b0
                   try clear c52b1
                   try clear c53
                   try clear c53b0
                   try clear c53b1
                   try clear c53b2
                   try clear c54
                   try clear c54b0
                   try clear c54b1
                   try clear c55
                   try clear c55b0
                   try clear c55b1
                   try clear c55b2
                   try clear c56
                   try clear c56b0
                   try clear c56b1
                   try clear c57
                   try clear c57b0
                   try clear c57b1
                   try clear c57b2
                   try clear c58
                   try clear c60
                   try clear c61
                   try clear c61b0
                   try clear c61b1
                   try clear c63
                   try clear c63b0
                   try clear c63b1
                   try clear c64
                   try clear c64b0
                   try clear c64b1
                   try clear p64
                   try clear p2
                   try clear p29
                   try clear p6
                   try clear q2
                   try clear q29
                   obtain ⟨x42_2, x43_2, rfl, rfl, HA, HK2, HB⟩ := hrel
                   cases gk with
                   | zero => exact absurd HA.out (by simp [laws_FnParityWords.l1])
                   | succ k2 =>
                    have H := HA.out
                    clear HA
                    simp only [laws_FnParityWords.l1] at H
                    by_cases c73 : x43_2 < t298
                    ·rw [if_pos c73] at H
                     have c73b0 : decide (x43_2 < t298) = true := decide_eq_true c73
                     clear c73
                     by_cases c74 : 0 ≤ x43_2
                     ·rw [if_pos c74] at H
                      have c74b0 : decide (0 ≤ x43_2) = true := decide_eq_true c74
                      clear c74
                      by_cases c75 : x43_2 < (t299.size : Int)
                      ·rw [if_pos c75] at H
                       have c75b0 : decide (x43_2 < (t299.size : Int)) = true := decide_eq_true c75
                       clear c75
                       by_cases c77 : (((bt t299 x43_2) == 49) != ((Int.tmod x42_2 2) == 1)) = true
                       ·rw [if_pos c77] at H
                        exact absurd H (by simp)
                       ·rw [if_neg c77] at H
                        have c77b0 : (((bt t299 x43_2) == 49) != ((Int.tmod x42_2 2) == 1)) = false := by simpa using c77
                        (try (have c77b1 : decide (((bt t299 x43_2) == 49) = ((Int.tmod x42_2 2) == 1)) = true := by simpa using c77))
                        (try (have c77b2 : (((bt t299 x43_2) == 49) == ((Int.tmod x42_2 2) == 1)) = true := by simpa using c77))
                        clear c77
                        replace H := Option.bind_eq_some_iff.mp H
                        obtain ⟨⟨t313, t314⟩, A780, H⟩ := H
                        replace H : (if t314 = true then (laws_FnParityWords.l1 k2 t298 t299 t307 t308 t313 (wrap64 (x43_2 + 1))) else (if x43_2 = (wrap64 (t298 - 1)) then (some (!t308)) else (none))) = some r := H
                        have A78 := Aside0.mk A780
                        clear A780
                        by_cases c79 : t314 = true
                        ·subst c79
                         have H1 : (laws_FnParityWords.l1 k2 t298 t299 t307 t308 t313 (wrap64 (x43_2 + 1))) = some r := by rw [if_pos rfl] at H; exact H
                         clear H
                         have H := H1
                         clear H1
                         as_aux_lemma =>
                          have H' := Aside0.mk H
                          clear H
                          have p76 : 0 ≤ (x43_2 : Int) := of_decide_eq_true (by first | (with_reducible assumption) | assumption)
                          have q76 : x43_2 < (t299.size : Int) := of_decide_eq_true (by first | (with_reducible assumption) | assumption)
                          have hx76 := bt_at t299 x43_2
                          replace p76 := eq_true p76
                          replace q76 := eq_true q76
                          go_wp2_with (first | ((with_reducible refine gate_callee (f := 33) rfl ?_); refine goesL_ (some 283) rfl rfl Try.func33 (by kernel_rfl) rfl #[.int .i64 x42_2] rfl (by (try simp only [List.map_toArray, List.map_cons, List.map_nil]); first | done | rfl | (simp only [List.length_drop, List.length_take]; rfl)) ?_; (with_reducible refine (impl_ShortStep.calls x42_2 t313 true _ A78.out).mono ?_); rintro e w' ⟨rfl, ⟨nd, rfl⟩⟩; refine ⟨_, rfl, ?_⟩))
                          go_roundg k2
                          case measure => have := HJ9.out; have := HK2.out; omega
                          case rel => exact ⟨(t313), (wrap64 (x43_2 + 1)), (by first | rfl | (simp; done) | (simp [*]; done)), (by first | rfl | (simp; done) | (simp [*]; done)), H', ⟨by have := HJ9.out; have := HK2.out; omega⟩, ⟨by repeat (first | (with_reducible first | exact HB.out | apply below_alloc | apply pw_below_drewN | apply below_drew1) | exact HB.out)⟩⟩
                        ·replace c79 := Bool.eq_false_iff.mpr c79
                         subst c79
                         have H1 : (if x43_2 = (wrap64 (t298 - 1)) then (some (!t308)) else (none)) = some r := by rw [if_neg (show ¬ (false = true) by decide)] at H; exact H
                         clear H
                         have H := H1
                         clear H1
                         by_cases c80 : x43_2 = (wrap64 (t298 - 1))
                         ·rw [if_pos c80] at H
                          have c80b0 : (x43_2 == (wrap64 (t298 - 1))) = true := beq_iff_eq.mpr c80
                          have c80b1 : (x43_2 != (wrap64 (t298 - 1))) = false := bne_eq_false_iff_eq.mpr c80
                          clear c80
                          as_aux_lemma =>
                           obtain rfl := Option.some.inj H
                           have p76 : 0 ≤ (x43_2 : Int) := of_decide_eq_true (by first | (with_reducible assumption) | assumption)
                           have q76 : x43_2 < (t299.size : Int) := of_decide_eq_true (by first | (with_reducible assumption) | assumption)
                           have hx76 := bt_at t299 x43_2
                           replace p76 := eq_true p76
                           replace q76 := eq_true q76
                           go_wp2_with (first | ((with_reducible refine gate_callee (f := 33) rfl ?_); refine goesL_ (some 283) rfl rfl Try.func33 (by kernel_rfl) rfl #[.int .i64 x42_2] rfl (by (try simp only [List.map_toArray, List.map_cons, List.map_nil]); first | done | rfl | (simp only [List.length_drop, List.length_take]; rfl)) ?_; (with_reducible refine (impl_ShortStep.calls x42_2 t313 false _ A78.out).mono ?_); rintro e w' ⟨rfl, ⟨nd, rfl⟩⟩; refine ⟨_, rfl, ?_⟩))
                           go_ret
                           exact ⟨by first | rfl | (simp [errW_none, errW_some] <;> rfl) | (simp only [← hji62]; first | rfl | (simp [errW_none, errW_some] <;> rfl)) | (simp [*, errW_none, errW_some] <;> rfl), by repeat (first | (with_reducible first | exact HB.out | apply below_alloc | apply pw_below_drewN | apply below_drew1) | exact HB.out)⟩
                         ·rw [if_neg c80] at H
                          exact absurd H (by simp)
                      ·rw [if_neg c75] at H
                       exact absurd H (by simp)
                     ·rw [if_neg c74] at H
                      exact absurd H (by simp)
                    ·rw [if_neg c73] at H
                     have c73b0 : decide (x43_2 < t298) = false := decide_eq_false c73
                     clear c73
                     by_cases c81 : t308 = true
                     ·subst c81
                      have H1 : (some (x42_2 == t307)) = some r := by rw [if_pos rfl] at H; exact H
                      clear H
                      have H := H1
                      clear H1
                      as_aux_lemma =>
                       obtain rfl := Option.some.inj H
                       go_wp2
                       go_ret
                       exact ⟨by first | rfl | (simp [errW_none, errW_some] <;> rfl) | (simp only [← hji62]; first | rfl | (simp [errW_none, errW_some] <;> rfl)) | (simp [*, errW_none, errW_some] <;> rfl), by repeat (first | (with_reducible first | exact HB.out | apply below_alloc | apply pw_below_drewN | apply below_drew1) | exact HB.out)⟩
                     ·replace c81 := Bool.eq_false_iff.mpr c81
                      subst c81
                      have H1 : (some true) = some r := by rw [if_neg (show ¬ (false = true) by decide)] at H; exact H
                      clear H
                      have H := H1
                      clear H1
                      as_aux_lemma =>
                       obtain rfl := Option.some.inj H
                       go_wp2
                       go_ret
                       exact ⟨by first | rfl | (simp [errW_none, errW_some] <;> rfl) | (simp only [← hji62]; first | rfl | (simp [errW_none, errW_some] <;> rfl)) | (simp [*, errW_none, errW_some] <;> rfl), by repeat (first | (with_reducible first | exact HB.out | apply below_alloc | apply pw_below_drewN | apply below_drew1) | exact HB.out)⟩
                 ·rw [if_neg c64] at H
                  exact absurd H (by simp)
               ·rw [if_neg c61] at H
                exact absurd H (by simp)
              ·replace c60 := Bool.eq_false_iff.mpr c60
               subst c60
               have H1 : (none) = some r := by rw [if_neg (show ¬ (false = true) by decide)] at H; exact H
               clear H
               have H := H1
               clear H1
               exact absurd H (by simp)
             ·replace c58 := Bool.eq_false_iff.mpr c58
              subst c58
              have H1 : (some true) = some r := by rw [if_neg (show ¬ (false = true) by decide)] at H; exact H
              clear H
              have H := H1
              clear H1
              as_aux_lemma =>
               obtain rfl := Option.some.inj H
               go_wp2_with (first | ((with_reducible refine gate_callee (f := 29) rfl ?_); refine goesL_ (some 178) rfl rfl Try.func29 (by kernel_rfl) rfl #[.slice A1 l1.length c1] rfl (by (try simp only [List.map_toArray, List.map_cons, List.map_nil]); first | done | rfl | (simp only [List.length_drop, List.length_take]; rfl)) ?_; (with_reducible refine (spec_DrawParityWord.calls kj9 _ _ l1 t297 t298 _ ?side1 ?side2 A44.out).mono ?_); (case side1 => repeat (first | exact (Kd.C_below HR1.out HB.out) | (with_reducible refine Kd.C_alloc ?_ _) | (with_reducible refine Kd.C_drewN ?_ _) | (with_reducible refine Kd.C_drew ?_))); (case side2 => exact HC1.out); rintro e w82 ⟨rfl, hb⟩; refine ⟨_, rfl, ?_⟩; have n0_ := Aside0.mk (below_step (by repeat (first | (with_reducible first | exact HB.out | apply below_alloc | apply pw_below_drewN | apply below_drew1) | exact HB.out)) hb); clear HB; have HB := n0_; clear n0_; (try clear hb); (try clear hb2); (try clear hk); (try clear hi)) | ((with_reducible refine gate_callee (f := 26) rfl ?_); refine goesL_ (some 184) rfl rfl Try.func26 (by kernel_rfl) rfl #[.int .i64 t297, .int .i64 t298] rfl (by (try simp only [List.map_toArray, List.map_cons, List.map_nil]); first | done | rfl | (simp only [List.length_drop, List.length_take]; rfl)) ?_; (with_reducible refine (impl_ParityWord.calls kj9 t297 t298 t299 false _ A45.out).mono ?_); rintro e w83 ⟨rfl, hb⟩; refine ⟨_, rfl, ?_⟩; have n0_ := Aside0.mk (below_step (by repeat (first | (with_reducible first | exact HB.out | apply below_alloc | apply pw_below_drewN | apply below_drew1) | exact HB.out)) hb); clear HB; have HB := n0_; clear n0_; (try clear hb); (try clear hb2); (try clear hk); (try clear hi)) | ((with_reducible refine gate_callee (f := 30) rfl ?_); refine goesL_ (some 190) rfl rfl Try.func30 (by kernel_rfl) rfl #[.int .i64 t297, .int .i64 t298] rfl (by (try simp only [List.map_toArray, List.map_cons, List.map_nil]); first | done | rfl | (simp only [List.length_drop, List.length_take]; rfl)) ?_; (with_reducible refine (spec_ParityWord.calls kj9 t297 t298 t301 t302 _ A46.out).mono ?_); rintro e w84 ⟨rfl, hb⟩; refine ⟨_, rfl, ?_⟩; have n0_ := Aside0.mk (below_step (by repeat (first | (with_reducible first | exact HB.out | apply below_alloc | apply pw_below_drewN | apply below_drew1) | exact HB.out)) hb); clear HB; have HB := n0_; clear n0_; (try clear hb); (try clear hb2); (try clear hk); (try clear hi)) | ((with_reducible refine gate_callee (f := 27) rfl ?_); refine goesL_ (some 196) rfl rfl Try.func27 (by kernel_rfl) rfl #[.int .i64 t297, .int .i64 t298] rfl (by (try simp only [List.map_toArray, List.map_cons, List.map_nil]); first | done | rfl | (simp only [List.length_drop, List.length_take]; rfl)) ?_; (with_reducible refine (impl_OddCount.calls kj9 t297 t298 t303 t304 _ A47.out).mono ?_); rintro e w85 ⟨rfl, hb⟩; refine ⟨_, rfl, ?_⟩; have n0_ := Aside0.mk (below_step (by repeat (first | (with_reducible first | exact HB.out | apply below_alloc | apply pw_below_drewN | apply below_drew1) | exact HB.out)) hb); clear HB; have HB := n0_; clear n0_; (try clear hb); (try clear hb2); (try clear hk); (try clear hi)) | ((with_reducible refine gate_callee (f := 31) rfl ?_); refine goesL_ (some 202) rfl rfl Try.func31 (by kernel_rfl) rfl #[.int .i64 t297, .int .i64 t298] rfl (by (try simp only [List.map_toArray, List.map_cons, List.map_nil]); first | done | rfl | (simp only [List.length_drop, List.length_take]; rfl)) ?_; (with_reducible refine (spec_OddCount.calls kj9 t297 t298 t305 t306 _ A48.out).mono ?_); rintro e w86 ⟨rfl, hb⟩; refine ⟨_, rfl, ?_⟩; have n0_ := Aside0.mk (below_step (by repeat (first | (with_reducible first | exact HB.out | apply below_alloc | apply pw_below_drewN | apply below_drew1) | exact HB.out)) hb); clear HB; have HB := n0_; clear n0_; (try clear hb); (try clear hb2); (try clear hk); (try clear hi)) | ((with_reducible refine gate_callee (f := 28) rfl ?_); refine goesL_ (some 208) rfl rfl Try.func28 (by kernel_rfl) rfl #[.int .i64 t297, .int .i64 t298] rfl (by (try simp only [List.map_toArray, List.map_cons, List.map_nil]); first | done | rfl | (simp only [List.length_drop, List.length_take]; rfl)) ?_; (with_reducible refine (impl_AfterShort.calls kj9 t297 t298 t307 t308 _ A49.out).mono ?_); rintro e w87 ⟨rfl, hb⟩; refine ⟨_, rfl, ?_⟩; have n0_ := Aside0.mk (below_step (by repeat (first | (with_reducible first | exact HB.out | apply below_alloc | apply pw_below_drewN | apply below_drew1) | exact HB.out)) hb); clear HB; have HB := n0_; clear n0_; (try clear hb); (try clear hb2); (try clear hk); (try clear hi)) | ((with_reducible refine gate_callee (f := 32) rfl ?_); refine goesL_ (some 214) rfl rfl Try.func32 (by kernel_rfl) rfl #[.int .i64 t297, .int .i64 t298] rfl (by (try simp only [List.map_toArray, List.map_cons, List.map_nil]); first | done | rfl | (simp only [List.length_drop, List.length_take]; rfl)) ?_; (with_reducible refine (spec_AfterShort.calls kj9 t297 t298 t309 t310 _ A50.out).mono ?_); rintro e w88 ⟨rfl, hb⟩; refine ⟨_, rfl, ?_⟩; have n0_ := Aside0.mk (below_step (by repeat (first | (with_reducible first | exact HB.out | apply below_alloc | apply pw_below_drewN | apply below_drew1) | exact HB.out)) hb); clear HB; have HB := n0_; clear n0_; (try clear hb); (try clear hb2); (try clear hk); (try clear hi)))
               go_ret
               exact ⟨by first | rfl | (simp [errW_none, errW_some] <;> rfl) | (simp [*, errW_none, errW_some] <;> rfl), by repeat (first | (with_reducible first | exact HB.out | apply below_alloc | apply pw_below_drewN | apply below_drew1) | exact HB.out)⟩
           ·rw [if_neg c56] at H
            exact absurd H (by simp)
         ·rw [if_neg c54] at H
          exact absurd H (by simp)
       ·rw [if_neg c52] at H
        exact absurd H (by simp)
   ·rw [if_neg c9] at H
    exact absurd H (by simp)

/-- THE ONE PURE STATEMENT of laws_FnParityWords: yours. -/
def laws_FnParityWords.Pure : Prop := ∀ (l0 : List Int) (l1 : List Int), l0.length ≤ maxLen → l0.length * 1 ≤ 140737488351232 → (∀ x ∈ l0, (Lit.int .u8 x).wf = true) → l1.length ≤ maxLen → l1.length * 1 ≤ 140737488351232 → (∀ x ∈ l1, (Lit.int .u8 x).wf = true) → ∃ k, laws_FnParityWords.f k l0 l1 = some true
theorem laws_FnParityWords.walk (P : laws_FnParityWords.Pure) (a0 : Option Addr) (len0 cap0 : Nat) (z0 : List Int) (a1 : Option Addr) (len1 cap1 : Nat) (z1 : List Int) (w : World) (w0 : (a0 = none ∧ len0 = 0 ∧ cap0 = 0 ∧ z0 = []) ∨ ∃ x, a0 = some x ∧ len0 ≤ cap0 ∧ cap0 ≤ maxLen ∧ z0.length = cap0 ∧ (∀ i, i < z0.length → w.cell? (x.add i) = some (.int .u8 (z0.getD i 0))) ∧ ∀ n ∈ z0, (Lit.int .u8 n).wf = true) (y0 : len0 * 1 ≤ 140737488351232) (w1 : (a1 = none ∧ len1 = 0 ∧ cap1 = 0 ∧ z1 = []) ∨ ∃ x, a1 = some x ∧ len1 ≤ cap1 ∧ cap1 ≤ maxLen ∧ z1.length = cap1 ∧ (∀ i, i < z1.length → w.cell? (x.add i) = some (.int .u8 (z1.getD i 0))) ∧ ∀ n ∈ z1, (Lit.int .u8 n).wf = true) (y1 : len1 * 1 ≤ 140737488351232) :
  Calls Try.prog 4 #[.slice a0 len0 cap0, .slice a1 len1 cap1] w fun e w' => e = .returned (.bool true) ∧ Below w.heap.size w w' := by
 obtain ⟨l0, rfl, hr0, hm0, hw0, hc0⟩ := ReadsInt.ofRowC w0
 obtain ⟨l1, rfl, hr1, hm1, hw1, hc1⟩ := ReadsInt.ofRowC w1
 obtain ⟨k, h⟩ := P l0 l1 hm0 y0 hw0 hm1 y1 hw1
 refine (laws_FnParityWords.calls k _ _ l0 _ _ l1 true w (Kd.C_of_reads (d := (0 : Int)) (h1 := fun _ => rfl) hr0) hc0 (Kd.C_of_reads (d := (0 : Int)) (h1 := fun _ => rfl) hr1) hc1 h).mono ?_
 rintro e w' ⟨rfl, hd⟩
 exact ⟨rfl, hd⟩

end Go.Proofs.Ythamjbfdhghbbaa.PFnParityWords
