/- Contracts of Go functions that the law FnSelfTellingLists reaches: each call does what the Lean function beside it says. Written by a program of this session (wip/gen). -/
import Derived.Test.YtaldmgfhkaiefaaPFnSelfTellingListsx0
import Derived.Test.YtaldmgfhkaiefaaPFnSelfTellingListsx1
namespace Go.Proofs.Ytaldmgfhkaiefaa.PFnSelfTellingLists
open Go.RowKit Go.Proofs.YtaldmgfhkaiefaaW.PrintWords Go.Proofs.YtaldmgfhkaiefaaW.PrintLast Go.Proofs.YtaldmgfhkaiefaaW.PrintMore
attribute [local go_sem] max2_int min2_int max_two min_two max_three min_three max_four min_four   -- for this text's walks alone
set_option linter.unusedVariables false
set_option linter.unusedSimpArgs false

/-! ### slices_Equal_int_int: function 41 -/
def slices_Equal_int_int.l0 : Nat → List Int → List Int → Int → Int → Option (Bool)
 | 0, _, _, _, _ => none
 | k + 1, x0, x1, x12, x13 => if x13 < x12 then (if 0 ≤ x13 then (if x13 < (x0.length : Int) then (if x13 < (x1.length : Int) then (if (rd x0 x13) = (rd x1 x13) then (slices_Equal_int_int.l0 k x0 x1 x12 (wrap64 (x13 + 1))) else (some false)) else (none)) else (none)) else (none)) else (some true)
def slices_Equal_int_int.f (k : Nat) (l0 : List Int) (l1 : List Int) : Option (Bool) := if (l0.length : Int) = (l1.length : Int) then (slices_Equal_int_int.l0 k l0 l1 (l0.length : Int) 0) else (some false)
theorem slices_Equal_int_int.mono_l : ∀ k, (∀ y0 y1 y2 y3, LeO (slices_Equal_int_int.l0 k y0 y1 y2 y3) (slices_Equal_int_int.l0 (k + 1) y0 y1 y2 y3))
 | 0 => fun _ _ _ _ r h => by simp [slices_Equal_int_int.l0] at h
 | k + 1 => by
  have ih0 := slices_Equal_int_int.mono_l k
  ·intro y0 y1 y2 y3
   unfold slices_Equal_int_int.l0
   repeat' first
   | (with_reducible exact ih0 _ _ _ _)
   | (with_reducible exact LeO.refl _)
   | (with_reducible exact LeO.none _)
   | (with_reducible refine LeO.ite ?_ ?_)
   | (with_reducible refine LeO.bind ?_ (fun _ => ?_))
   | exact ih0 _ _ _ _
   | exact LeO.none _
   | refine LeO.ite ?_ ?_
   | refine LeO.bind ?_ (fun _ => ?_)
theorem slices_Equal_int_int.mono : ∀ a0 a1 k, LeO (slices_Equal_int_int.f k a0 a1) (slices_Equal_int_int.f (k + 1) a0 a1) := by
 intro a0 a1 k
 have ih0 := slices_Equal_int_int.mono_l k
 unfold slices_Equal_int_int.f
 repeat' first
   | (with_reducible exact ih0 _ _ _ _)
   | (with_reducible exact LeO.refl _)
   | (with_reducible exact LeO.none _)
   | (with_reducible refine LeO.ite ?_ ?_)
   | (with_reducible refine LeO.bind ?_ (fun _ => ?_))
   | exact ih0 _ _ _ _
   | exact LeO.none _
   | refine LeO.ite ?_ ?_
   | refine LeO.bind ?_ (fun _ => ?_)
set_option maxHeartbeats 8000000 in
set_option maxRecDepth 100000 in
theorem slices_Equal_int_int.calls (k : Nat) (A0 : Option Addr) (c0 : Nat) (l0 : List Int) (A1 : Option Addr) (c1 : Nat) (l1 : List Int) (r : Bool) (w : World) (hr0 : Kd.C (Kd.int .i64) w A0 l0.length l0) (hc0 : l0.length ≤ c0) (hr1 : Kd.C (Kd.int .i64) w A1 l1.length l1) (hc1 : l1.length ≤ c1) (h : slices_Equal_int_int.f k l0 l1 = some r) :
  Calls Try.prog 41 #[.slice A0 l0.length c0, .slice A1 l1.length c1] w fun e w' => e = .returned (.bool r) ∧ Drawn0 w w' := by
 have HR0 := Aside0.mk hr0
 have HC0 := Aside0.mk hc0
 clear hr0 hc0
 have HR1 := Aside0.mk hr1
 have HC1 := Aside0.mk hc1
 clear hr1 hc1
 have H : (if (l0.length : Int) = (l1.length : Int) then (slices_Equal_int_int.l0 k l0 l1 (l0.length : Int) 0) else (some false)) = some r := h
 clear h
 by_cases c3 : (l0.length : Int) = (l1.length : Int)
 ·rw [if_pos c3] at H
  have c3b0 : ((l0.length : Int) == (l1.length : Int)) = true := beq_iff_eq.mpr c3
  have c3b1 : ((l0.length : Int) != (l1.length : Int)) = false := bne_eq_false_iff_eq.mpr c3
  have c3b2 : (l0.length == l1.length) = true := by first | simpa using c3 | (simp at c3 ⊢; omega)
  clear c3
  have H' := Aside0.mk H
  clear H
  go_enter Try.func41, Try.ntmps41
  go_wp2
  repeat (go_quiet (fail); try go_wp2)
  go_loopg [13] k (fun kq v13 w' => ∃ (x13_1 : Int), v13 = .int .i64 x13_1 ∧ Aside0 (slices_Equal_int_int.l0 kq l0 l1 (l0.length : Int) x13_1 = some r) ∧ Aside0 (kq ≤ k) ∧ Drawn0 w w')
  case atStart => exact ⟨(0), (by first | rfl | (simp; done) | (simp [*]; done)), H', ⟨Nat.le_refl _⟩, by repeat (first | exact Drawn0.refl _ | apply Drawn0.step)⟩
  case round =>
   clear H'
   try clear c1
   try clear p2
   try clear c3
   try clear c3b0
   try clear c3b1
   try clear c3b2
   obtain ⟨x13_1, rfl, HA, HK1, ⟨m1, rfl⟩⟩ := hrel
   cases gk with
   | zero => exact absurd HA.out (by simp [slices_Equal_int_int.l0])
   | succ k1 =>
    have H := HA.out
    clear HA
    simp only [slices_Equal_int_int.l0] at H
    by_cases c4 : x13_1 < (l0.length : Int)
    ·rw [if_pos c4] at H
     have c4b0 : decide (x13_1 < (l0.length : Int)) = true := decide_eq_true c4
     clear c4
     by_cases c5 : 0 ≤ x13_1
     ·rw [if_pos c5] at H
      have c5b0 : decide (0 ≤ x13_1) = true := decide_eq_true c5
      clear c5
      by_cases c6 : x13_1 < (l0.length : Int)
      ·rw [if_pos c6] at H
       have c6b0 : decide (x13_1 < (l0.length : Int)) = true := decide_eq_true c6
       clear c6
       by_cases c7 : x13_1 < (l1.length : Int)
       ·rw [if_pos c7] at H
        have c7b0 : decide (x13_1 < (l1.length : Int)) = true := decide_eq_true c7
        clear c7
        by_cases c8 : (rd l0 x13_1) = (rd l1 x13_1)
        ·rw [if_pos c8] at H
         have c8b0 : ((rd l0 x13_1) == (rd l1 x13_1)) = true := beq_iff_eq.mpr c8
         have c8b1 : ((rd l0 x13_1) != (rd l1 x13_1)) = false := bne_eq_false_iff_eq.mpr c8
         clear c8
         have H' := Aside0.mk H
         clear H
         have p144 : 0 ≤ (x13_1 : Int) := of_decide_eq_true (by first | (with_reducible assumption) | assumption)
         have q144 : x13_1 < (l0.length : Int) := of_decide_eq_true (by first | (with_reducible assumption) | assumption)
         obtain ⟨ad144, e144, hx144_0⟩ := Kd.at_int HR0.out x13_1 p144 q144
         cases e144
         replace p144 := eq_true p144
         replace q144 := eq_true q144
         have p145 : 0 ≤ (x13_1 : Int) := of_decide_eq_true (by first | (with_reducible assumption) | assumption)
         have q145 : x13_1 < (l1.length : Int) := of_decide_eq_true (by first | (with_reducible assumption) | assumption)
         obtain ⟨ad145, e145, hx145_0⟩ := Kd.at_int HR1.out x13_1 p145 q145
         cases e145
         replace p145 := eq_true p145
         replace q145 := eq_true q145
         go_wp2
         repeat (go_quiet (fail); try go_wp2)
         go_roundg k1
         case measure => have := HK1.out; omega
         case rel => exact ⟨(wrap64 (x13_1 + 1)), (by first | rfl | (simp; done) | (simp [*]; done)), H', ⟨by have := HK1.out; omega⟩, by repeat (first | exact Drawn0.refl _ | apply Drawn0.step)⟩
        ·rw [if_neg c8] at H
         have c8b0 : ((rd l0 x13_1) == (rd l1 x13_1)) = false := beq_eq_false_iff_ne.mpr c8
         have c8b1 : ((rd l0 x13_1) != (rd l1 x13_1)) = true := bne_iff_ne.mpr c8
         obtain rfl := Option.some.inj H
         have p144 : 0 ≤ (x13_1 : Int) := of_decide_eq_true (by first | (with_reducible assumption) | assumption)
         have q144 : x13_1 < (l0.length : Int) := of_decide_eq_true (by first | (with_reducible assumption) | assumption)
         obtain ⟨ad144, e144, hx144_0⟩ := Kd.at_int HR0.out x13_1 p144 q144
         cases e144
         replace p144 := eq_true p144
         replace q144 := eq_true q144
         have p145 : 0 ≤ (x13_1 : Int) := of_decide_eq_true (by first | (with_reducible assumption) | assumption)
         have q145 : x13_1 < (l1.length : Int) := of_decide_eq_true (by first | (with_reducible assumption) | assumption)
         obtain ⟨ad145, e145, hx145_0⟩ := Kd.at_int HR1.out x13_1 p145 q145
         cases e145
         replace p145 := eq_true p145
         replace q145 := eq_true q145
         go_wp2
         repeat (go_quiet (fail); try go_wp2)
         go_ret
         exact ⟨by first | rfl | (simp; done) | (simp [*]; done), by repeat (first | exact Drawn0.refl _ | apply Drawn0.step)⟩
       ·rw [if_neg c7] at H
        exact absurd H (by simp)
      ·rw [if_neg c6] at H
       exact absurd H (by simp)
     ·rw [if_neg c5] at H
      exact absurd H (by simp)
    ·rw [if_neg c4] at H
     have c4b0 : decide (x13_1 < (l0.length : Int)) = false := decide_eq_false c4
     clear c4
     obtain rfl := Option.some.inj H
     go_wp2
     repeat (go_quiet (fail); try go_wp2)
     go_ret
     exact ⟨by first | rfl | (simp; done) | (simp [*]; done), by repeat (first | exact Drawn0.refl _ | apply Drawn0.step)⟩
 ·rw [if_neg c3] at H
  have c3b0 : ((l0.length : Int) == (l1.length : Int)) = false := beq_eq_false_iff_ne.mpr c3
  have c3b1 : ((l0.length : Int) != (l1.length : Int)) = true := bne_iff_ne.mpr c3
  have c3b2 : (l0.length == l1.length) = false := by first | simpa using c3 | (simp at c3 ⊢; omega)
  obtain rfl := Option.some.inj H
  go_enter Try.func41, Try.ntmps41
  go_wp2
  repeat (go_quiet (fail); try go_wp2)
  go_ret
  exact ⟨by first | rfl | (simp; done) | (simp [*]; done), by repeat (first | exact Drawn0.refl _ | apply Drawn0.step)⟩

/-! ### impl_tellCounts: function 42 -/
def impl_tellCounts.l0 : Nat → List Int → List Int → List Int → Int → Int → Option (List Int)
 | 0, _, _, _, _, _ => none
 | k + 1, x0, x3, x9, x10, x11 => if x11 < x10 then (if 0 ≤ x11 then (if x11 < (x9.length : Int) then ((impl_in.f (rd x9 x11) 0 (wrap64 ((x0.length : Int) - 1))).bind fun t150 => (if t150 = true then (if 0 ≤ (rd x9 x11) then (if (rd x9 x11) < (x3.length : Int) then (impl_tellCounts.l0 k x0 (x3.set ((rd x9 x11) : Int).toNat (wrap64 ((rd x3 (rd x9 x11)) + 1))) x9 x10 (wrap64 (x11 + 1))) else (none)) else (none)) else (impl_tellCounts.l0 k x0 x3 x9 x10 (wrap64 (x11 + 1))))) else (none)) else (none)) else (some x3)
def impl_tellCounts.f (k : Nat) (l0 : List Int) : Option (List Int) := if 0 ≤ (l0.length : Int) then (if ((l0.length : Int) : Int).toNat ≤ 35184372088832 then (impl_tellCounts.l0 k l0 (List.replicate ((l0.length : Int) : Int).toNat 0) l0 (l0.length : Int) 0) else (none)) else (none)
theorem impl_tellCounts.mono_l : ∀ k, (∀ y0 y1 y2 y3 y4, LeO (impl_tellCounts.l0 k y0 y1 y2 y3 y4) (impl_tellCounts.l0 (k + 1) y0 y1 y2 y3 y4))
 | 0 => fun _ _ _ _ _ r h => by simp [impl_tellCounts.l0] at h
 | k + 1 => by
  have ih0 := impl_tellCounts.mono_l k
  ·intro y0 y1 y2 y3 y4
   unfold impl_tellCounts.l0
   repeat' first
   | (with_reducible exact ih0 _ _ _ _ _)
   | (with_reducible exact LeO.refl _)
   | (with_reducible exact LeO.none _)
   | (with_reducible refine LeO.ite ?_ ?_)
   | (with_reducible refine LeO.bind ?_ (fun _ => ?_))
   | exact ih0 _ _ _ _ _
   | exact LeO.none _
   | refine LeO.ite ?_ ?_
   | refine LeO.bind ?_ (fun _ => ?_)
theorem impl_tellCounts.mono : ∀ a0 k, LeO (impl_tellCounts.f k a0) (impl_tellCounts.f (k + 1) a0) := by
 intro a0 k
 have ih0 := impl_tellCounts.mono_l k
 unfold impl_tellCounts.f
 repeat' first
   | (with_reducible exact ih0 _ _ _ _ _)
   | (with_reducible exact LeO.refl _)
   | (with_reducible exact LeO.none _)
   | (with_reducible refine LeO.ite ?_ ?_)
   | (with_reducible refine LeO.bind ?_ (fun _ => ?_))
   | exact ih0 _ _ _ _ _
   | exact LeO.none _
   | refine LeO.ite ?_ ?_
   | refine LeO.bind ?_ (fun _ => ?_)
set_option maxHeartbeats 8000000 in
set_option maxRecDepth 100000 in
theorem impl_tellCounts.calls (k : Nat) (A0 : Option Addr) (c0 : Nat) (l0 : List Int) (r : List Int) (w : World) (hr0 : Kd.C (Kd.int .i64) w A0 l0.length l0) (hc0 : l0.length ≤ c0) (h : impl_tellCounts.f k l0 = some r) :
  Calls Try.prog 42 #[.slice A0 l0.length c0] w fun e w' => ∃ v0_ : Value, e = .returned (v0_) ∧ Kd.R (Kd.int .i64) 3 w' w.heap.size (fun _ => True) v0_ r ∧ Below w.heap.size w w' := by
 have HR0 := Aside0.mk hr0
 have HC0 := Aside0.mk hc0
 clear hr0 hc0
 have HB := Aside0.mk (Below.refl w.heap.size w)
 have H : (if 0 ≤ (l0.length : Int) then (if ((l0.length : Int) : Int).toNat ≤ 35184372088832 then (impl_tellCounts.l0 k l0 (List.replicate ((l0.length : Int) : Int).toNat 0) l0 (l0.length : Int) 0) else (none)) else (none)) = some r := h
 clear h
 by_cases c2 : 0 ≤ (l0.length : Int)
 ·rw [if_pos c2] at H
  have c2b0 := eq_true c2
  have c2b1 : decide (0 ≤ (l0.length : Int)) = true := decide_eq_true c2
  clear c2
  by_cases c3 : ((l0.length : Int) : Int).toNat ≤ 35184372088832
  ·rw [if_pos c3] at H
   have c3b0 := eq_true c3
   have c3b1 : decide (((l0.length : Int) : Int).toNat ≤ 35184372088832) = true := decide_eq_true c3
   clear c3
   obtain ⟨y146, hy146⟩ : ∃ y_ : List Int, y_ = (List.replicate ((l0.length : Int) : Int).toNat 0) := ⟨_, rfl⟩
   replace H : (impl_tellCounts.l0 k l0 y146 l0 (l0.length : Int) 0) = some r := by first | (rw [hy146]; with_reducible exact H) | (have H2_ := (Option.bind_some _ _).symm.trans H; rw [hy146]; with_reducible exact H2_) | (have H2_ := (Option.bind_some _ _).symm.trans H; with_reducible exact H2_) | with_reducible exact H | (rw [hy146]; exact H) | exact H
   have Ny146 := Aside0.mk hy146
   clear hy146
   have H' := Aside0.mk H
   clear H
   go_enter Try.func42, Try.ntmps42
   go_wp2_with (first | ((with_reducible refine gate_dst (N := 8) rfl ?_); refine Kd.R_make (Kd.int .i64) _ 3 rfl (N := 8) rfl 28 _ _ rfl (l0.length : Int) rfl rfl Try.underlying28 (.int .i64 0) 8 info3 rfl (by decide) (by omega) 0 (ok := fun _ => True) (okp := fun _ => True) rfl (fun _ hk => hk) trivial (of_decide_eq_true (by first | (with_reducible assumption) | assumption)) (Nat.le_trans (Nat.mul_le_mul_right _ (of_decide_eq_true (by first | (with_reducible assumption) | assumption) : (l0.length : Int).toNat ≤ 35184372088832)) (by omega)) (Below.refl _ _) (Nat.le_refl _) ?_; intro v147 w4 ho5 hb hg_ hnew_; clear hg_ hnew_; (first | rw [← Ny146.out] at ho5 | (simp only [Int.reduceToNat] at ho5; rw [← Ny146.out] at ho5)); have n0_ := Aside0.mk (Kd.R_lower ho5 (below_size (by repeat (first | (with_reducible first | exact HB.out | apply below_alloc | apply pw_below_drewN | apply below_drew1) | exact HB.out)))); have n1_ := Aside0.mk (below_step (by repeat (first | (with_reducible first | exact HB.out | apply below_alloc | apply pw_below_drewN | apply below_drew1) | exact HB.out)) hb); clear HB; have HO148 := n0_; have HB := n1_; clear n0_ n1_; clear hb ho5))
   go_loopg [11] k (fun kq v11 w' => ∃ (x3_1 : List Int) (x11_1 : Int), v11 = .int .i64 x11_1 ∧ Aside0 (impl_tellCounts.l0 kq l0 x3_1 l0 (l0.length : Int) x11_1 = some r) ∧ Aside0 (kq ≤ k) ∧ Aside0 (Kd.R (Kd.int .i64) 3 w' w.heap.size (fun _ => True) v147 x3_1) ∧ Aside0 (Below w.heap.size w w'))
   case atStart => exact ⟨(y146), (0), (by first | rfl | (simp; done) | (simp [*]; done)), H', ⟨Nat.le_refl _⟩, ⟨by (with_reducible repeat (first | apply Kd.R_alloc | apply Kd.R_drewN | apply Kd.R_drew)); exact HO148.out⟩, ⟨by repeat (first | (with_reducible first | exact HB.out | apply below_alloc | apply pw_below_drewN | apply below_drew1) | exact HB.out)⟩⟩
   case round =>
    clear H'
    try clear c2
    try clear c2b0
    try clear c2b1
    try clear p2
    try clear c3
    try clear c3b0
    try clear c3b1
    try clear c4
    obtain ⟨x3_1, x11_1, rfl, HA, HK1, HO_3, HB⟩ := hrel
    cases gk with
    | zero => exact absurd HA.out (by simp [impl_tellCounts.l0])
    | succ k1 =>
     have H := HA.out
     clear HA
     simp only [impl_tellCounts.l0] at H
     by_cases c6 : x11_1 < (l0.length : Int)
     ·rw [if_pos c6] at H
      have c6b0 : decide (x11_1 < (l0.length : Int)) = true := decide_eq_true c6
      clear c6
      by_cases c7 : 0 ≤ x11_1
      ·rw [if_pos c7] at H
       have c7b0 : decide (0 ≤ x11_1) = true := decide_eq_true c7
       clear c7
       by_cases c8 : x11_1 < (l0.length : Int)
       ·rw [if_pos c8] at H
        have c8b0 : decide (x11_1 < (l0.length : Int)) = true := decide_eq_true c8
        clear c8
        replace H := Option.bind_eq_some_iff.mp H
        obtain ⟨t150, A90, H⟩ := H
        replace H : (if t150 = true then (if 0 ≤ (rd l0 x11_1) then (if (rd l0 x11_1) < (x3_1.length : Int) then (impl_tellCounts.l0 k1 l0 (x3_1.set ((rd l0 x11_1) : Int).toNat (wrap64 ((rd x3_1 (rd l0 x11_1)) + 1))) l0 (l0.length : Int) (wrap64 (x11_1 + 1))) else (none)) else (none)) else (impl_tellCounts.l0 k1 l0 x3_1 l0 (l0.length : Int) (wrap64 (x11_1 + 1)))) = some r := H
        have A9 := Aside0.mk A90
        clear A90
        by_cases c10 : t150 = true
        ·subst c10
         have H1 : (if 0 ≤ (rd l0 x11_1) then (if (rd l0 x11_1) < (x3_1.length : Int) then (impl_tellCounts.l0 k1 l0 (x3_1.set ((rd l0 x11_1) : Int).toNat (wrap64 ((rd x3_1 (rd l0 x11_1)) + 1))) l0 (l0.length : Int) (wrap64 (x11_1 + 1))) else (none)) else (none)) = some r := by rw [if_pos rfl] at H; exact H
         clear H
         have H := H1
         clear H1
         by_cases c11 : 0 ≤ (rd l0 x11_1)
         ·rw [if_pos c11] at H
          have c11b0 : decide (0 ≤ (rd l0 x11_1)) = true := decide_eq_true c11
          clear c11
          by_cases c12 : (rd l0 x11_1) < (x3_1.length : Int)
          ·rw [if_pos c12] at H
           have c12b0 : decide ((rd l0 x11_1) < (x3_1.length : Int)) = true := decide_eq_true c12
           clear c12
           obtain ⟨y152, hy152⟩ : ∃ y_ : List Int, y_ = (x3_1.set ((rd l0 x11_1) : Int).toNat (wrap64 ((rd x3_1 (rd l0 x11_1)) + 1))) := ⟨_, rfl⟩
           replace H : (impl_tellCounts.l0 k1 l0 y152 l0 (l0.length : Int) (wrap64 (x11_1 + 1))) = some r := by first | (rw [hy152]; with_reducible exact H) | (have H2_ := (Option.bind_some _ _).symm.trans H; rw [hy152]; with_reducible exact H2_) | (have H2_ := (Option.bind_some _ _).symm.trans H; with_reducible exact H2_) | with_reducible exact H | (rw [hy152]; exact H) | exact H
           have Ny152 := Aside0.mk hy152
           clear hy152
           have H' := Aside0.mk H
           clear H
           have p149 : 0 ≤ (x11_1 : Int) := of_decide_eq_true (by first | (with_reducible assumption) | assumption)
           have q149 : x11_1 < (l0.length : Int) := of_decide_eq_true (by first | (with_reducible assumption) | assumption)
           obtain ⟨ad149, e149, hx149_0⟩ := Kd.at_int HR0.out x11_1 p149 q149
           cases e149
           replace hx149_0 := (HB.out.cell (World.block_lt_of_cell? w _ hx149_0)).trans hx149_0
           replace p149 := eq_true p149
           replace q149 := eq_true q149
           go_wp2_with (first | ((with_reducible refine gate_callee (f := 39) rfl ?_); refine goesL_ (some 19) rfl rfl Try.func39 (by kernel_rfl) rfl #[.int .i64 (rd l0 x11_1), .int .i64 0, .int .i64 (wrap64 ((l0.length : Int) - 1))] rfl (by (try simp only [List.map_toArray, List.map_cons, List.map_nil]); first | done | rfl | (simp only [List.length_drop, List.length_take]; rfl)) ?_; (with_reducible refine (impl_in.calls (rd l0 x11_1) 0 (wrap64 ((l0.length : Int) - 1)) true _ A9.out).mono ?_); rintro e w' ⟨rfl, ⟨nd, rfl⟩⟩; refine ⟨_, rfl, ?_⟩; (try (rw [drewN_self wr]; generalize hq_ : World.drewN wr _ = wr; have n0_ : Aside0 (Kd.R (Kd.int .i64) 3 wr w.heap.size (fun _ => True) v147 x3_1) := ⟨by rw [← hq_]; exact (by (with_reducible repeat (first | apply Kd.R_alloc | apply Kd.R_drewN | apply Kd.R_drew)); exact HO_3.out)⟩; have n1_ : Aside0 (Below w.heap.size w wr) := ⟨by rw [← hq_]; exact (by repeat (first | (with_reducible first | exact HB.out | apply below_alloc | apply pw_below_drewN | apply below_drew1) | exact HB.out))⟩; clear HO_3 HB hq_; have HO_3 := n0_; have HB := n1_; clear n0_ n1_)); obtain ⟨Ao14, co14, eo14⟩ := Kd.R_slice HO_3.out; subst eo14; have p151 : 0 ≤ ((rd l0 x11_1) : Int) := of_decide_eq_true (by first | (with_reducible assumption) | assumption); have q151 : (rd l0 x11_1) < (x3_1.length : Int) := of_decide_eq_true (by first | (with_reducible assumption) | assumption); obtain ⟨ad151, e151, hx151_0⟩ := Kd.at_int (Kd.R_reads' HO_3.out).2.2 (rd l0 x11_1) p151 q151; cases e151; replace p151 := eq_true p151; replace q151 := eq_true q151; have p13 : 0 ≤ ((rd l0 x11_1) : Int) := of_decide_eq_true (by first | (with_reducible assumption) | assumption); have q13 : ((rd l0 x11_1) : Int) < ((x3_1.length : Int) : Int) := of_decide_eq_true (by first | (with_reducible assumption) | assumption); obtain ⟨go13, co13, eo13, gb13, gl13, cl13, HG13⟩ := Kd.R_form HO_3.out (by omega); (first | cases eo13 | (injection eo13 with ea_ en_ ec_; (first | subst ea_ | (injection ea_ with ea_; subst ea_)); subst ec_; clear en_)); have GB13 := Aside0.mk gb13; have GG13 := Aside0.mk HG13; clear gb13 gl13 HG13; (first | simp only [add_plain] at hx151_0 | skip); obtain ⟨hx13_0, hf13_0⟩ := Kd.R_celln 0 HO_3.out ((rd l0 x11_1) : Int) p13 q13; replace p13 := eq_true p13; replace q13 := eq_true q13; obtain ⟨hy15_, hz15_⟩ := Kd.R_celln 0 HO_3.out ((rd l0 x11_1) : Int) (of_decide_eq_true (by first | (with_reducible assumption) | assumption)) (of_decide_eq_true (by first | (with_reducible assumption) | assumption)); have HP15 := Kd.R_putg HO_3.out ((rd l0 x11_1) : Int) (wrap64 ((rd x3_1 (rd l0 x11_1)) + 1))) | ((with_reducible refine gate_store (t := 3) (p := 25) rfl ?_); refine store_event (t := 3) (p := 25) (v := ?vo_w16) (w1 := (wr.setCell ⟨go13, ((rd l0 x11_1) : Int).toNat, none⟩ (.int .i64 (wrap64 ((rd x3_1 (rd l0 x11_1)) + 1))))) ?hg ?ho ?hn ?hr ?_; (case ho => rfl); (case hg => rfl); (case hn => rfl); (case hr => first | (go_simp; done) | (go_simp; rfl)); intro w16 hw; have hg : wr.grownBy w16 (some go13) := (by rw [hw]; exact HP15.2); have hp_ : Kd.R (Kd.int .i64) 3 w16 w.heap.size (fun _ => True) (.slice (some ⟨go13, 0, none⟩) x3_1.length co14) y152 := (by rw [hw, Ny152.out]; exact HP15.1); clear HP15; have n0_ := Aside0.mk (hp_); have n1_ := Aside0.mk ((by rw [hw]; exact below_set (HB.out) GB13.out : Below w.heap.size w w16)); clear HO_3; clear HB; have HO_3 := n0_; have HB := n1_; clear n0_ n1_; clear hg hw hp_))
           go_roundg k1
           case measure => have := HK1.out; omega
           case rel => exact ⟨(y152), (wrap64 (x11_1 + 1)), (by first | rfl | (simp; done) | (simp [*]; done)), H', ⟨by have := HK1.out; omega⟩, ⟨by (with_reducible repeat (first | apply Kd.R_alloc | apply Kd.R_drewN | apply Kd.R_drew)); exact HO_3.out⟩, ⟨by repeat (first | (with_reducible first | exact HB.out | apply below_alloc | apply pw_below_drewN | apply below_drew1) | exact HB.out)⟩⟩
          ·rw [if_neg c12] at H
           exact absurd H (by simp)
         ·rw [if_neg c11] at H
          exact absurd H (by simp)
        ·replace c10 := Bool.eq_false_iff.mpr c10
         subst c10
         have H1 : (impl_tellCounts.l0 k1 l0 x3_1 l0 (l0.length : Int) (wrap64 (x11_1 + 1))) = some r := by rw [if_neg (show ¬ (false = true) by decide)] at H; exact H
         clear H
         have H := H1
         clear H1
         have H' := Aside0.mk H
         clear H
         have p149 : 0 ≤ (x11_1 : Int) := of_decide_eq_true (by first | (with_reducible assumption) | assumption)
         have q149 : x11_1 < (l0.length : Int) := of_decide_eq_true (by first | (with_reducible assumption) | assumption)
         obtain ⟨ad149, e149, hx149_0⟩ := Kd.at_int HR0.out x11_1 p149 q149
         cases e149
         replace hx149_0 := (HB.out.cell (World.block_lt_of_cell? w _ hx149_0)).trans hx149_0
         replace p149 := eq_true p149
         replace q149 := eq_true q149
         go_wp2_with (first | ((with_reducible refine gate_callee (f := 39) rfl ?_); refine goesL_ (some 19) rfl rfl Try.func39 (by kernel_rfl) rfl #[.int .i64 (rd l0 x11_1), .int .i64 0, .int .i64 (wrap64 ((l0.length : Int) - 1))] rfl (by (try simp only [List.map_toArray, List.map_cons, List.map_nil]); first | done | rfl | (simp only [List.length_drop, List.length_take]; rfl)) ?_; (with_reducible refine (impl_in.calls (rd l0 x11_1) 0 (wrap64 ((l0.length : Int) - 1)) false _ A9.out).mono ?_); rintro e w' ⟨rfl, ⟨nd, rfl⟩⟩; refine ⟨_, rfl, ?_⟩))
         go_roundg k1
         case measure => have := HK1.out; omega
         case rel => exact ⟨(x3_1), (wrap64 (x11_1 + 1)), (by first | rfl | (simp; done) | (simp [*]; done)), H', ⟨by have := HK1.out; omega⟩, ⟨by (with_reducible repeat (first | apply Kd.R_alloc | apply Kd.R_drewN | apply Kd.R_drew)); exact HO_3.out⟩, ⟨by repeat (first | (with_reducible first | exact HB.out | apply below_alloc | apply pw_below_drewN | apply below_drew1) | exact HB.out)⟩⟩
       ·rw [if_neg c8] at H
        exact absurd H (by simp)
      ·rw [if_neg c7] at H
       exact absurd H (by simp)
     ·rw [if_neg c6] at H
      have c6b0 : decide (x11_1 < (l0.length : Int)) = false := decide_eq_false c6
      clear c6
      obtain rfl := Option.some.inj H
      go_wp2
      go_ret
      exact ⟨_, by first | rfl | (simp [errW_none, errW_some] <;> rfl) | (simp [*, errW_none, errW_some] <;> rfl), by (with_reducible repeat (first | apply Kd.R_alloc | apply Kd.R_drewN | apply Kd.R_drew)); exact HO_3.out, by repeat (first | (with_reducible first | exact HB.out | apply below_alloc | apply pw_below_drewN | apply below_drew1) | exact HB.out)⟩
  ·rw [if_neg c3] at H
   exact absurd H (by simp)
 ·rw [if_neg c2] at H
  exact absurd H (by simp)

/-! ### slices_Clone_int_int: function 43 -/
def slices_Clone_int_int.f (l0 : List Int) : Option (List Int) := if l0.length < 17592186044416 then some l0 else none
theorem slices_Clone_int_int.info : (Try.prog.info? 3).map (fun i => (i.zero, i.size, i.bytes)) = some (some (.int .i64 0), 1, 8) := by kernel_rfl
set_option maxHeartbeats 4000000 in
set_option maxRecDepth 100000 in
theorem slices_Clone_int_int.calls (A0 : Option Addr) (c0 : Nat) (l0 : List Int) (r : List Int) (w : World) (hr0 : Kd.C (Kd.int .i64) w A0 l0.length l0) (hc0 : l0.length ≤ c0) (h : slices_Clone_int_int.f l0 = some r) :
  Calls Try.prog 43 #[.slice A0 l0.length c0] w fun e w' => ∃ v0_ : Value, e = .returned (v0_) ∧ Kd.R (Kd.int .i64) 3 w' w.heap.size (fun _ => True) v0_ r ∧ Below w.heap.size w w' := by
 have HR0 := Aside0.mk hr0
 have HC0 := Aside0.mk hc0
 have HB := Aside0.mk (Below.refl w.heap.size w)
 unfold slices_Clone_int_int.f at h
 by_cases c2 : l0.length < 17592186044416
 ·rw [if_pos c2] at h
  obtain rfl := Option.some.inj h
  have LMc2 := Aside0.mk c2
  cases A0 with
  | none =>
   have hl : l0.length = 0 := Nat.eq_zero_of_not_pos (fun hp => by
    obtain ⟨ad, e, _⟩ := hr0.2.2 hp
    cases e)
   have hl2 : l0 = [] := List.length_eq_zero_iff.1 hl
   clear hr0 hc0 h c2 hl HR0 HC0 LMc2
   subst hl2
   have hu := Try.underlying28
   have hq := fun W => Lib.run_eql_slice_nil (P := Try.prog) W 28 3 none 0 c0 0 0 Try.underlying28
   go_enter Try.func43, Try.ntmps43
   go_wp2
   go_ret
   exact ⟨_, rfl, Kd.R_nil _ _ _ _ _, HB.out⟩
  | some ad =>
   clear hr0 hc0 h c2
   have hu := Try.underlying28
   have hq := fun W => Lib.run_eql_slice_nil (P := Try.prog) W 28 3 (some ad) l0.length c0 0 0 Try.underlying28
   go_enter Try.func43, Try.ntmps43
   go_wp2_with (first | ((with_reducible refine gate_dst (N := 5) rfl ?_); refine Kd.R_lit (Kd.int .i64) _ 3 ?hg (N := 5) ?hd (xs := ([] : List Int)) (inner := []) (ok := fun _ => True) (okp := fun _ => True) ?hr ?hp (fun _ hk => hk) trivial (Below.refl _ _) (Nat.le_refl _) (by simp) ?_; (case hd => rfl); (case hg => rfl); (case hr => first | (go_simp; done) | (go_simp; rfl)); (case hp => exact (Reps.none _ _)); intro v102 w3 ho4 hb hg_ hnew_; clear hg_ hnew_; have HO103 := Aside0.mk ho4; have n1_ := Aside0.mk (below_step HB.out hb); clear HB; have HB := n1_; clear hb ho4 n1_) | ((with_reducible refine gate_builtin (b := .append) (xs := #[.tmp 5, .tmp 6]) rfl ?_); at_builtin; refine Kd.R_append_rows (Kd.int .i64) (w0 := w) w.heap.size rfl (.tmp 5) (.tmp 6) 28 3 (.int .i64 0) 8 rfl Try.underlying28 slices_Clone_int_int.info rfl (by decide) (by omega) v102 [] l0 _ _ _ (fun _ => True) (fun _ => False) rfl rfl ?aO ?aR (fun _ _ h => h) (fun _ h => h.elim) ?aF ?aB ?aS ?aL ?_; (case aR => exact (Kd.C_below HR0.out HB.out)); (case aB => exact HB.out); (case aF => exact (fun _ _ => trivial)); (case aO => exact HO103.out); (case aS => exact (below_size HB.out)); (case aL => have := LMc2.out; simp only [List.length_nil]; omega); intro v105 w5 ho hb hg hat; have n0_ := Aside0.mk hb; have n1_ := Aside0.mk ho; clear HB HO103; have HB := n0_; have HO106 := n1_; clear n0_ n1_ ho hb hg hat))
   go_ret
   exact ⟨_, rfl, HO106.out, HB.out⟩
 ·rw [if_neg c2] at h
  cases h

/-! ### impl_SelfTelling: function 10 -/
mutual
def impl_SelfTelling.on : Nat → Int → List Int → Int → List (List Int) → Option (List (List Int))
 | 0, _, _, _, _ => none
 | k + 1, n, l, left, acc => if (l.length : Int) = n then (if left = 0 then ((impl_tellCounts.f k l).bind fun c => ((slices_Equal_int_int.f k c l).bind fun t => (if t = true then ((slices_Clone_int_int.f l).bind fun q => (if acc.length < 5864062014805 then (some (acc ++ [q])) else (none))) else (some acc)))) else (some acc)) else (impl_SelfTelling.lp k n l left 0 acc)
def impl_SelfTelling.lp : Nat → Int → List Int → Int → Int → List (List Int) → Option (List (List Int))
 | 0, _, _, _, _, _ => none
 | k + 1, n, l, left, d, acc => if d ≤ left then (if l.length < 17592186044416 then ((impl_SelfTelling.on k n (l ++ [d]) (wrap64 (left - d)) acc).bind fun acc' => (impl_SelfTelling.lp k n l left (wrap64 (d + 1)) acc')) else (none)) else (some acc)
end
def impl_SelfTelling.f (k : Nat) (a0 : Int) : Option (List (List Int) × Bool) := (impl_in.f a0 1 10).bind fun t => (if t = true then ((impl_SelfTelling.on k a0 [] a0 []).bind fun r => (some (r, true))) else (some ([], false)))
mutual
theorem impl_SelfTelling.mono_on : ∀ k, (∀ n l left acc, LeO (impl_SelfTelling.on k n l left acc) (impl_SelfTelling.on (k + 1) n l left acc))
 | 0 => fun _ _ _ _ r h => by simp [impl_SelfTelling.on] at h
 | k + 1 => by
  have ih := impl_SelfTelling.mono_lp k
  intro n l left acc
  unfold impl_SelfTelling.on
  exact LeO.ite (LeO.ite (LeO.bind (impl_tellCounts.mono _ _) (fun _ => LeO.bind (slices_Equal_int_int.mono _ _ _) (fun _ => LeO.refl _))) (LeO.refl _)) (ih _ _ _ _ _)
theorem impl_SelfTelling.mono_lp : ∀ k, (∀ n l left d acc, LeO (impl_SelfTelling.lp k n l left d acc) (impl_SelfTelling.lp (k + 1) n l left d acc))
 | 0 => fun _ _ _ _ _ r h => by simp [impl_SelfTelling.lp] at h
 | k + 1 => by
  have ih := impl_SelfTelling.mono_lp k
  have ih2 := impl_SelfTelling.mono_on k
  intro n l left d acc
  unfold impl_SelfTelling.lp
  exact LeO.ite (LeO.ite (LeO.bind (ih2 _ _ _ _) (fun _ => ih _ _ _ _ _)) (LeO.none _)) (LeO.refl _)
end
theorem impl_SelfTelling.mono : ∀ a0 k, LeO (impl_SelfTelling.f k a0) (impl_SelfTelling.f (k + 1) a0) := fun a0 k => LeO.bind (LeO.refl _) (fun _ => LeO.ite (LeO.bind (impl_SelfTelling.mono_on k _ _ _ _) (fun _ => LeO.refl _)) (LeO.refl _))
theorem impl_SelfTelling.keptCell {w W : World} {S : Nat → Prop} (h : Kept w W S) {a : Addr} {v : Value} (hc : w.cell? a = some v) (hn : ¬ S a.block) : W.cell? a = some v := by
 have hlt := World.block_lt_of_cell? w a hc
 unfold World.cell? at hc ⊢
 rw [h.2 _ hlt hn]; exact hc
theorem impl_SelfTelling.keptFrozen {w W : World} {S : Nat → Prop} (h : Kept w W S) {a : Addr} (hlt : a.block < w.heap.size) (hc : w.frozen? a = false) (hn : ¬ S a.block) : W.frozen? a = false := by
 unfold World.frozen? at hc ⊢
 rw [h.2 _ hlt hn]; exact hc
/-- What the literal finds: the count, the lists so far, itself. -/
structure impl_SelfTelling.St (w : World) (n : Int) (pn po pf : Nat) (v : Value) : Prop where
 hn : w.cell? ⟨pn, 0, none⟩ = some (.int .i64 n)
 ho : w.cell? ⟨po, 0, none⟩ = some v
 hz : w.frozen? ⟨po, 0, none⟩ = false
 hf : w.cell? ⟨pf, 0, none⟩ = some (.func (.func 40) #[] #[.pointer (some ⟨pn, 0, none⟩), .pointer (some ⟨po, 0, none⟩), .pointer (some ⟨pf, 0, none⟩)])
/-- What it leaves. -/
structure impl_SelfTelling.Left (w0 w w' : World) (n : Int) (pn po pf : Nat) (okO : Nat → Prop) (r : List (List Int)) (e : Ending) : Prop where
 e : e = .returned (.tuple #[])
 o : ∃ v' : Value, impl_SelfTelling.St w' n pn po pf v' ∧ Kd.S (Kd.slice 3 (Kd.int .i64)) 28 w' w0.heap.size (fun k => okO k ∨ w.heap.size ≤ k) v' r
 k : Kept w w' (fun k => k = po ∨ okO k)
 b : Below w0.heap.size w0 w'
theorem impl_SelfTelling.putOut {w0 w w6 : World} {n : Int} {pn po pf : Nat} {okO : Nat → Prop} {v V : Value} {r : List (List Int)} (hpn : pn ≠ po) (hpf : pf ≠ po) (hs : impl_SelfTelling.St w n pn po pf v) (hp : w0.heap.size ≤ po) (dO : ∀ k, okO k → k ≠ po ∧ k ≠ pn ∧ k ≠ pf) (hk : Kept w w6 okO) (hb : Below w0.heap.size w0 w6)
  (ho : Kd.S (Kd.slice 3 (Kd.int .i64)) 28 w6 w0.heap.size (fun k => okO k ∨ w.heap.size ≤ k) V r) : impl_SelfTelling.Left w0 w (w6.setCell ⟨po, 0, none⟩ V) n pn po pf okO r (.returned (.tuple #[])) := by
 have hpo := World.block_lt_of_cell? w _ hs.ho
 have hn : ∀ p, p ≠ po → (∀ k, okO k → k ≠ p) → ∀ u, w.cell? ⟨p, 0, none⟩ = some u → (w6.setCell ⟨po, 0, none⟩ V).cell? ⟨p, 0, none⟩ = some u := fun p h1 h2 u hu => by
  rw [World.cell?_setCell_far _ _ _ _ (show po ≠ p from fun e => h1 e.symm)]
  exact impl_SelfTelling.keptCell hk hu (fun h => h2 _ h rfl)
 have co := impl_SelfTelling.keptCell hk hs.ho (fun h => (dO _ h).1 rfl)
 exact ⟨rfl, ⟨V, ⟨hn pn hpn (fun k h => (dO k h).2.1) _ hs.hn, World.cell?_setCell_same' w6 _ V (by rw [co]; rfl), by rw [World.frozen?_setCell]; exact impl_SelfTelling.keptFrozen hk hpo hs.hz (fun h => (dO _ h).1 rfl), hn pf hpf (fun k h => (dO k h).2.2) _ hs.hf⟩,
  Kd.S_far ho (fun k h => by
   rcases h with h | h
   ·exact (dO k h).1
   ·intro e; subst e; exact absurd hpo (by show ¬ k < w.heap.size; omega)) V⟩,
  Kept.setCell (hk.mono (fun k h => .inr h)) (.inl (.inl rfl)) V, hb.setCell hp V⟩
theorem impl_SelfTelling.cells {w : World} {A : Option Addr} {l : List Int} (h : Kd.C (Kd.int .i64) w A l.length l) : ∀ b, A = some b → ∀ j u, (encs (Value.int .i64) l)[j]? = some u → w.cell? (b.add j) = some u := by
 intro b hb j u hu
 obtain ⟨_, _, h3⟩ := h
 have hj : j < l.length := by
  rcases Nat.lt_or_ge j l.length with h | h
  ·exact h
  ·rw [List.getElem?_eq_none (by rw [encs_length]; exact h)] at hu; cases hu
 obtain ⟨ad, ha, hc⟩ := h3 (by omega)
 obtain rfl : ad = b := Option.some.inj (ha.symm.trans hb)
 obtain ⟨c, hcl, hk, hcc⟩ := hc j l[j] (List.getElem?_eq_getElem hj)
 obtain rfl : c = [Value.int .i64 l[j]] := hk
 have := hcc 0 _ rfl
 rw [show j * (Kd.int .i64).sz + 0 = j from Nat.mul_one j] at this
 rw [this]
 simp [encs, List.getElem?_eq_getElem hj] at hu
 rw [hu]
theorem impl_SelfTelling.asIs {w0 w w' : World} {n : Int} {pn po pf : Nat} {okO : Nat → Prop} {v : Value} {r : List (List Int)} (hs : impl_SelfTelling.St w n pn po pf v) (hb : Below w0.heap.size w0 w) (hb' : Below w.heap.size w w')
  (ho : Kd.S (Kd.slice 3 (Kd.int .i64)) 28 w w0.heap.size okO v r) : impl_SelfTelling.Left w0 w w' n pn po pf okO r (.returned (.tuple #[])) :=
 ⟨rfl, ⟨v, ⟨pw_cell_below hb' hs.hn, pw_cell_below hb' hs.ho, (hb'.frozen (p := ⟨po, 0, none⟩) (World.block_lt_of_cell? w _ hs.ho)).trans hs.hz, pw_cell_below hb' hs.hf⟩, Kd.S_mono (Kd.S_below ho hb') (fun _ h => .inl h)⟩, Kept.of_below hb' _, below_weaken hb hb.size hb'⟩
set_option maxHeartbeats 4000000 in
set_option maxRecDepth 100000 in
theorem impl_SelfTelling_1.calls (n : Int) (pn po pf : Nat) (hpn : pn ≠ po) (hpf : pf ≠ po) (w0 : World) (k : Nat) : ∀ (okL okO : Nat → Prop) (vl v : Value) (l : List Int) (left : Int) (acc r : List (List Int)) (w : World)
  (hl : Kd.R (Kd.int .i64) 3 w w0.heap.size okL vl l) (ho : Kd.S (Kd.slice 3 (Kd.int .i64)) 28 w w0.heap.size okO v acc) (hs : impl_SelfTelling.St w n pn po pf v) (hb : Below w0.heap.size w0 w) (hp : w0.heap.size ≤ po)
  (dL : ∀ k, okL k → k ≠ po ∧ ¬ okO k) (dO : ∀ k, okO k → k ≠ po ∧ k ≠ pn ∧ k ≠ pf) (h : impl_SelfTelling.on k n l left acc = some r),
  Calls Try.prog 40 #[vl, .int .i64 left, .pointer (some ⟨pn, 0, none⟩), .pointer (some ⟨po, 0, none⟩), .pointer (some ⟨pf, 0, none⟩)] w fun e w' => impl_SelfTelling.Left w0 w w' n pn po pf okO r e := by
 induction k using Nat.strongRecOn with
 | _ k ih =>
 intro okL okO vl v l left acc r w hl ho hs hb hp dL dO h
 cases k with
 | zero => exact absurd h (by simp [impl_SelfTelling.on])
 | succ k =>
 simp only [impl_SelfTelling.on] at h
 have HL := Aside0.mk hl
 have HO := Aside0.mk ho
 have HB := Aside0.mk hb
 have DL := Aside0.mk dL
 have DO := Aside0.mk dO
 have hpo := World.block_lt_of_cell? w _ hs.ho
 have HP := Aside0.mk (show w0.heap.size ≤ po ∧ po < w.heap.size from ⟨hp, hpo⟩)
 have HST := Aside0.mk hs
 have HPN := Aside0.mk (And.intro hpn hpf)
 obtain ⟨cn, co, cz, cf⟩ := hs
 obtain ⟨A0, c0, rfl⟩ := Kd.R_slice hl
 have HC := Aside0.mk (Kd.R_reads' hl).2.2
 have HC0 := Aside0.mk (Kd.R_reads' hl).2.1
 have IH := Aside0.mk ih
 clear hl ho hb dL dO hp hpo ih hpn hpf
 by_cases c1 : (l.length : Int) = n
 ·rw [if_pos c1] at h
  have c1b : ((l.length : Int) == n) = true := beq_iff_eq.mpr c1
  clear c1
  by_cases c2 : left = 0
  ·rw [if_pos c2] at h
   have c2b : (left == 0) = true := beq_iff_eq.mpr c2
   clear c2
   obtain ⟨t1, A1, h⟩ := Option.bind_eq_some_iff.mp h
   obtain ⟨t2, A2, h⟩ := Option.bind_eq_some_iff.mp h
   have B1 := Aside0.mk A1
   have B2 := Aside0.mk A2
   clear A1 A2
   cases t2 with
   | true =>
    rw [if_pos rfl] at h
    obtain ⟨t3, A3, h⟩ := Option.bind_eq_some_iff.mp h
    have B3 := Aside0.mk A3
    clear A3
    by_cases c3 : acc.length < 5864062014805
    ·rw [if_pos c3] at h
     have LM := Aside0.mk c3
     have HR := Aside0.mk (Option.some.inj h)
     clear c3 h
     go_enter Try.func40, Try.ntmps40
     go_wp2_with (first | (go_at_call 42; (refine (impl_tellCounts.calls k _ _ l t1 _ HC.out HC0.out B1.out).mono ?_); rintro e w1 ⟨v1, rfl, ho1, hb1⟩; obtain ⟨A1, y1, rfl⟩ := Kd.R_slice ho1; have HC1 := Aside0.mk (Kd.R_reads' ho1).2.2; have HCL1 := Aside0.mk (Kd.R_reads' ho1).2.1; have HCw := Aside0.mk (Kd.C_below HC.out hb1); have co1 := pw_cell_below hb1 co; have cz1 := (hb1.frozen (p := ⟨po, 0, none⟩) HP.out.2).trans cz; have HB1 := Aside0.mk hb1; clear hb1 ho1) | (go_at_call 41; (refine (slices_Equal_int_int.calls k _ _ t1 _ _ l true _ HC1.out HCL1.out HCw.out HC0.out B2.out).mono ?_); rintro e w2 ⟨rfl, nd, rfl⟩))
     have HOb := Aside0.mk (Kd.S_mono (ok' := fun k_ => okO k_ ∧ k_ < w.heap.size) (Kd.S_bound HO.out) (fun k_ h_ => ⟨h_.1, h_.2.2.1⟩))
     have HVk := Aside0.mk (Kd.S_lt HO.out)
     go_region_law (first
      | (go_simp; go_at_call 43; (refine (slices_Clone_int_int.calls _ _ l t3 _ ?s1 ?s2 B3.out).mono ?_); (case s1 => repeat (first | exact HCw.out | refine Kd.C_drewN ?_ _ | refine Kd.C_drew ?_)); (case s2 => exact HC0.out); rintro e w5 ⟨v3, rfl, ho3, hb3⟩; have HK5 := Aside0.mk (below_step (by repeat (first | exact HB1.out | apply pw_below_drewN | apply below_drew1)) hb3); have co5 := pw_cell_below HK5.out co; have cz5 := (HK5.out.frozen (p := ⟨po, 0, none⟩) HP.out.2).trans cz; have ca5 := fun (o_ : Obj) => pw_cell_below (below_alloc (Below.refl w5.heap.size w5) o_) co5; have HN5 := Aside0.mk (fun k_ e_ => show w1.heap.size ≤ k_ from Kd.R_base ho3 k_ e_); have HR5 := Aside0.mk (Kd.R_lower (Kd.R_tight rfl ho3) (Nat.le_trans HB.out.size HB1.out.size)); have HO5 := Aside0.mk (Kd.S_below HOb.out HK5.out); clear ho3 hb3; obtain ⟨A3, c3, rfl⟩ := Kd.R_slice HR5.out)
      | (refine Kd.S_append_step (Kd.slice 3 (Kd.int .i64)) (w0 := w0) w0.heap.size (by rfl) (.tmp 20) (.tmp 23) 22 28 (.slice none 0 0) 24 (by rfl) Try.underlying22 info28 rfl (by decide) (by omega) v acc t3 [.slice A3 t3.length c3] (fun k_ => okO k_ ∨ w.heap.size ≤ k_) (fun k_ => some k_ = (Value.slice A3 t3.length c3).ownBlock) (by simp [Act.eval, Act.put]) (by simp [Act.eval, Act.put]) ?aP ?aK ?aF ?aO ?aB ?aS ?aL ?_; (case aP => exact Kd.M_row (by repeat (first | exact HR5.out | apply Kd.R_alloc | apply Kd.R_drewN | apply Kd.R_drew))); (case aK => intro k_ hk_; have := HN5.out k_ hk_.symm; exact ⟨.inr (Nat.le_trans HB1.out.size this), fun e_ => by have := HVk.out k_ e_.symm; have := HB1.out.size; omega⟩); (case aF => intro k_ hk_; exact .inr (Nat.le_trans HK5.out.size hk_)); (case aO => refine Kd.S_mono (ok := fun k_ => okO k_ ∧ k_ < w.heap.size) (by repeat (first | exact HO5.out | apply Kd.S_alloc | apply Kd.S_drewN | apply Kd.S_drew)) (fun k_ h_ => ⟨.inl h_.1, fun e_ => by have := HN5.out k_ e_.symm; have := h_.2; have := HB1.out.size; omega⟩)); (case aB => repeat (first | exact below_weaken HB.out HB.out.size HK5.out | apply below_alloc | apply pw_below_drewN | apply below_drew1)); (case aS => exact Nat.le_trans HB.out.size HK5.out.size); (case aL => have := LM.out; omega); intro v6 w6 ho6 hb6 hg6 hat6; obtain ⟨A6, c6, rfl⟩ := Kd.S_slice ho6; have hk6 : Kept w w6 okO := Kept.of_grown hg6 (Kept.of_below HK5.out _) (fun k_ e_ => .inl ((Kd.S_R HO.out).1 k_ e_)); have co6 := impl_SelfTelling.keptCell hk6 co (fun h_ => (DO.out _ h_).1 rfl); have cz6 := impl_SelfTelling.keptFrozen hk6 HP.out.2 cz (fun h_ => (DO.out _ h_).1 rfl); have KE := Aside0.mk hk6; have HO6 := Aside0.mk ho6; have HB6 := Aside0.mk hb6; clear ho6 hb6 hg6 hat6 hk6))
     all_goals go_wp2
     all_goals (first | go_end0 | ((try simp only [Exit.inBlock, Exit.then]); refine bodyPost_ret (results_none rfl _ _ _) rfl ?_))
     all_goals (rw [← HR.out]; exact impl_SelfTelling.putOut HPN.out.1 HPN.out.2 HST.out HP.out.1 DO.out KE.out HB6.out (by have h_ := HO6.out; rw [List.length_append] at h_; exact h_))
    ·rw [if_neg c3] at h; cases h
   | false =>
    rw [if_neg (by simp)] at h
    have HR := Aside0.mk (Option.some.inj h)
    clear h
    go_enter Try.func40, Try.ntmps40
    go_wp2_with (first | (go_at_call 42; (refine (impl_tellCounts.calls k _ _ l t1 _ HC.out HC0.out B1.out).mono ?_); rintro e w1 ⟨v1, rfl, ho1, hb1⟩; obtain ⟨A1, y1, rfl⟩ := Kd.R_slice ho1; have HC1 := Aside0.mk (Kd.R_reads' ho1).2.2; have HCL1 := Aside0.mk (Kd.R_reads' ho1).2.1; have HCw := Aside0.mk (Kd.C_below HC.out hb1); have co1 := pw_cell_below hb1 co; have cz1 := (hb1.frozen (p := ⟨po, 0, none⟩) HP.out.2).trans cz; have HB1 := Aside0.mk hb1; clear hb1 ho1) | (go_at_call 41; (refine (slices_Equal_int_int.calls k _ _ t1 _ _ l false _ HC1.out HCL1.out HCw.out HC0.out B2.out).mono ?_); rintro e w2 ⟨rfl, nd, rfl⟩))
    (first | go_end0 | ((try simp only [Exit.inBlock, Exit.then]); refine bodyPost_ret (results_none rfl _ _ _) rfl ?_))
    rw [← HR.out]
    exact impl_SelfTelling.asIs HST.out HB.out (pw_below_drewN HB1.out _) HO.out
  ·rw [if_neg c2] at h
   have c2b : (left == 0) = false := beq_eq_false_iff_ne.mpr c2
   have HR := Aside0.mk (Option.some.inj h)
   clear h c2
   go_enter Try.func40, Try.ntmps40
   go_wp2_with fail
   (first | go_end0 | ((try simp only [Exit.inBlock, Exit.then]); refine bodyPost_ret (results_none rfl _ _ _) rfl ?_))
   rw [← HR.out]
   exact impl_SelfTelling.asIs HST.out HB.out (by repeat (first | exact Below.refl _ _ | apply pw_below_drewN | apply below_drew1)) HO.out
 ·rw [if_neg c1] at h
  have c1b : ((l.length : Int) == n) = false := beq_eq_false_iff_ne.mpr c1
  have H' := Aside0.mk h
  clear h c1
  go_enter Try.func40, Try.ntmps40
  go_wp2_with fail
  go_loopg [7] k (fun kq v7 w' => ∃ (d : Int) (acc1 : List (List Int)) (v1 : Value), v7 = .int .i64 d ∧ Aside0 (impl_SelfTelling.lp kq n l left d acc1 = some r) ∧ Aside0 (kq ≤ k) ∧ Aside0 (impl_SelfTelling.St w' n pn po pf v1) ∧ Aside0 (Kd.S (Kd.slice 3 (Kd.int .i64)) 28 w' w0.heap.size (fun k_ => okO k_ ∨ w.heap.size ≤ k_) v1 acc1) ∧ Aside0 (Kept w w' (fun k_ => k_ = po ∨ okO k_)) ∧ Aside0 (Below w0.heap.size w0 w'))
  case atStart => exact ⟨0, acc, v, rfl, H', ⟨Nat.le_refl _⟩, HST, ⟨Kd.S_mono HO.out (fun _ h_ => .inl h_)⟩, ⟨Kept.refl _ _⟩, HB⟩
  case round =>
   clear H'
   obtain ⟨d, acc1, v1, rfl, HA, HK1, HS1, HO1, HKp, HBp⟩ := hrel
   cases gk with
   | zero => exact absurd HA.out (by simp [impl_SelfTelling.lp])
   | succ k1 =>
    have H := HA.out
    clear HA cn co cz cf
    simp only [impl_SelfTelling.lp] at H
    have cn := HS1.out.hn
    have co := HS1.out.ho
    have cz := HS1.out.hz
    have cf := HS1.out.hf
    by_cases c2 : d ≤ left
    ·rw [if_pos c2] at H
     have c2b : decide (d ≤ left) = true := decide_eq_true c2
     clear c2
     by_cases c3 : l.length < 17592186044416
     ·rw [if_pos c3] at H
      obtain ⟨acc2, A1, H⟩ := Option.bind_eq_some_iff.mp H
      have B1 := Aside0.mk A1
      have H' := Aside0.mk H
      have LM := Aside0.mk c3
      clear A1 H c3
      go_wp2_with fail
      obtain ⟨i0, hi, hz⟩ := Option.map_eq_some_iff.1 info3
      simp only [Prod.mk.injEq] at hz
      obtain ⟨hz0, hz1, hz2⟩ := hz
      have HI := Aside0.mk hi
      have HZ0 := Aside0.mk hz0
      have HZ1 := Aside0.mk hz1
      have HZ2 := Aside0.mk hz2
      clear hi hz0 hz1 hz2
      have hcap : (l.length : Int) ≤ (c0 : Int) := by have := HC0.out; omega
      have HLN := Aside0.mk (fun (e_ : A0 = none) => show l.length = 0 ∧ l.length = 0 from ?_)
      rotate_left
      ·have h_ := HL.out
       subst e_
       have h2_ := Kd.R_form h_
       by_cases c_ : 0 < l.length
       ·obtain ⟨g_, cap_, e_, _⟩ := h2_ c_
        cases e_
       ·omega
      have HCr := Aside0.mk (Kd.R_reads' (Kd.R_kept (Kd.R_mono (ok' := fun k_ => okL k_ ∧ k_ < w.heap.size) (Kd.R_bound HL.out) (fun k_ h_ => ⟨h_.1, h_.2.2.1⟩)) HKp.out (fun k_ h_ => fun e_ => by rcases e_ with e_ | e_; exact (DL.out k_ h_.1).1 e_; exact (DL.out k_ h_.1).2 e_))).2.2
      have HPL := Aside0.mk (show pn < w.heap.size ∧ pf < w.heap.size from ⟨World.block_lt_of_cell? w _ HST.out.hn, World.block_lt_of_cell? w _ HST.out.hf⟩)
      have HWs := Aside0.mk HKp.out.1
      have HOr := Aside0.mk (Kd.S_mono (ok' := fun k_ => (okO k_ ∨ w.heap.size ≤ k_) ∧ k_ < wr.heap.size) (Kd.S_bound HO1.out) (fun k_ h_ => ⟨h_.1, h_.2.2.1⟩))
      have cfa := fun (o_ : Obj) => pw_cell_below (below_alloc (Below.refl wr.heap.size wr) o_) cf
      have hwl : IntKind.i64.wrap (left - d) = wrap64 (left - d) := i64_w _
      go_region_law (first
       | (go_simp; go_at_call 40; (refine (IH.out k1 (by have := HK1.out; omega) (fun k_ => v8.ownBlock = some k_) (fun k_ => (okO k_ ∨ w.heap.size ≤ k_) ∧ k_ < wr.heap.size) v8 v1 (l ++ [d]) (wrap64 (left - d)) acc1 acc2 _ ?s1 ?s2 ?s3 ?s4 HP.out.1 ?s5 ?s6 B1.out).mono ?_); (case s1 => with_reducible repeat (first | exact HR8.out | apply Kd.R_alloc | apply Kd.R_drewN | apply Kd.R_drew)); (case s2 => with_reducible repeat (first | exact HO8.out | apply Kd.S_alloc | apply Kd.S_drewN | apply Kd.S_drew)); (case s3 => exact ⟨cn8, co8, cz8, cf8⟩); (case s4 => with_reducible repeat (first | exact HB8.out | apply below_alloc | apply pw_below_drewN | apply below_drew1)); (case s5 => intro k_ h_; have h1_ := HBB.out k_ h_; have h2_ := HWs.out; have h3_ := HP.out.2; exact ⟨fun e_ => by omega, fun e_ => by have := e_.2; omega⟩); (case s6 => intro k_ h_; rcases h_.1 with h1_ | h1_; exact DO.out k_ h1_; have h2_ := HPL.out; have h3_ := HP.out.2; exact ⟨fun e_ => by omega, fun e_ => by omega, fun e_ => by omega⟩); intro e w9 hL9; obtain ⟨rfl, ⟨v9, hS9, hO9⟩, hK9, hB9⟩ := hL9; have HS9 := Aside0.mk hS9; have HO9 := Aside0.mk hO9; have HK9 := Aside0.mk (Kept.then_ (Kept.below HKp.out KB.out) hK9 (fun k_ h_ => by rcases h_ with h_ | h_; exact .inl (.inl h_); rcases h_.1 with h_ | h_; exact .inl (.inr h_); exact .inr h_)); have HB9 := Aside0.mk hB9; clear hS9 hO9 hK9 hB9)
       | (refine step_append_grows (by rfl) (.tmp 36) (.tmp 38) 28 ?b0 3 i0 (.int .i64 0) 1 8 Try.underlying28 HI.out HZ0.out HZ1.out HZ2.out rfl (by decide) A0 l.length l.length (encs (Value.int .i64) l) ?b1 HLN.out ?b2 ?aC ⟨wr.heap.size, 0, none⟩ 1 1 [.int .i64 d] ?b3 ?b4 ?aN ?b5 ?b6 ?b7 ?b8 ?_; (case b0 => rfl); (case b1 => simp [Act.eval, Act.put]); (case b2 => rw [encs_length, Nat.mul_one]); (case b3 => simp [Act.eval, Act.put]); (case b4 => rfl); (case b5 => simp [Value.oneCell']); (case b6 => omega); (case b7 => have := LM.out; simp only [maxLen]; omega); (case b8 => have := LM.out; omega); (case aC => exact impl_SelfTelling.cells (by with_reducible repeat (first | exact HCr.out | apply Kd.C_alloc | apply Kd.C_drewN | apply Kd.C_drew))); (case aN => exact World.news_of_block (cs := #[.int .i64 d]) (t := 3) (fr := (0, 0)) (heap_alloc_new _ _)); intro v8 w8 hown hgr; have KB := Aside0.mk (below_step (by with_reducible repeat (first | exact Below.refl _ _ | apply below_alloc | apply pw_below_drewN | apply below_drew1)) (show Below _ _ w8 from ⟨hgr.os, hgr.tape, hgr.output, hgr.size, fun k_ h_ => hgr.block k_ h_ (by simp)⟩) : Below wr.heap.size wr w8); have cf8 := pw_cell_below KB.out cf; have cn8 := pw_cell_below KB.out cn; have co8 := pw_cell_below KB.out co; have cz8 := (KB.out.frozen (p := ⟨po, 0, none⟩) (Nat.lt_of_lt_of_le HP.out.2 HWs.out)).trans cz; have HO8 := Aside0.mk (Kd.S_below HOr.out KB.out); have HB8 := Aside0.mk (below_weaken HBp.out HBp.out.size KB.out); have HBB := Aside0.mk (fun k_ (e_ : v8.ownBlock = some k_) => Nat.le_trans (show wr.heap.size ≤ _ from ?hsz) (own_base hown k_ e_)); (case hsz => simp); have HR8 := Aside0.mk (show Kd.R (Kd.int .i64) 3 w8 w0.heap.size (fun k_ => v8.ownBlock = some k_) v8 (l ++ [d]) from Kd.R_of_own (h1 := fun _ => rfl) (enc := Value.int .i64) (xs := l ++ [d]) (base := w0.heap.size) (ok := fun k_ => v8.ownBlock = some k_) (own_weaken (by rw [List.length_append, encs_append]; exact hown) (Nat.le_trans (Nat.le_trans HB.out.size HWs.out) (by simp))) (fun _ h_ => h_)); clear hown hgr)
       | fail)
      all_goals go_wp2_with fail
      all_goals go_roundg k1
      all_goals first
       | (case measure => have := HK1.out; omega)
       | (case rel => exact ⟨wrap64 (d + 1), acc2, v9, (by first | rfl | (simp; done)), H', ⟨by have := HK1.out; omega⟩, HS9, ⟨Kd.S_mono HO9.out (fun k_ h_ => by rcases h_ with h_ | h_; exact h_.1; exact .inr (Nat.le_trans (Nat.le_trans HWs.out KB.out.size) h_))⟩, HK9, HB9⟩)
       | trace_state
     ·rw [if_neg c3] at H; cases H
    ·rw [if_neg c2] at H
     have c2b : decide (d ≤ left) = false := decide_eq_false c2
     have HR := Aside0.mk (Option.some.inj H)
     clear H c2
     go_wp2_with fail
     (first | go_end0 | ((try simp only [Exit.inBlock, Exit.then]); refine bodyPost_ret (results_none rfl _ _ _) rfl ?_))
     rw [← HR.out]
     exact ⟨rfl, ⟨v1, HS1.out, HO1.out⟩, HKp.out, HBp.out⟩
set_option maxHeartbeats 4000000 in
set_option maxRecDepth 100000 in
theorem impl_SelfTelling.calls (k : Nat) (a0 : Int) (r1 : List (List Int)) (r2 : Bool) (w : World) (h : impl_SelfTelling.f k a0 = some (r1, r2)) :
  Calls Try.prog 10 #[.int .i64 a0] w fun e w' => ∃ v0_ : Value, e = .returned (.tuple #[v0_, .bool r2]) ∧ Kd.S (Kd.slice 3 (Kd.int .i64)) 28 w' w.heap.size (fun _ => True) v0_ r1 ∧ Below w.heap.size w w' := by
 obtain ⟨t1, A1, h⟩ := Option.bind_eq_some_iff.mp h
 have HI := Aside0.mk (fun W => impl_in.calls a0 1 10 _ W A1)
 clear A1
 cases t1 with
 | false =>
  rw [if_neg (by simp)] at h
  simp only [Option.some.injEq, Prod.mk.injEq] at h
  obtain ⟨rfl, rfl⟩ := h
  go_enter Try.func10, Try.ntmps10
  go_wp2_with (first | (go_at_call 39; (refine (HI.out _).mono ?_); rintro e w' ⟨rfl, nd, rfl⟩))
  go_ret2
  exact ⟨_, rfl, Kd.S_nil _ _ _ _ _, by repeat (first | exact Below.refl _ _ | apply below_alloc | apply pw_below_drewN | apply below_drew1)⟩
 | true =>
  rw [if_pos rfl] at h
  obtain ⟨q, A2, h⟩ := Option.bind_eq_some_iff.mp h
  simp only [Option.some.injEq, Prod.mk.injEq] at h
  obtain ⟨rfl, rfl⟩ := h
  have B2 := Aside0.mk A2
  clear A2
  have hmf : ∀ (fn : Fn) (first cap : Array Value) (w : World), (Instr.makeFunc fn first cap).run Try.prog w = .ok (.func fn first cap) w := fun _ _ _ _ => rfl
  have hsf : ∀ (a : Addr) (fn : Fn) (first cap : Array Value) (W : World), (store a (.func fn first cap)).run Try.prog W = stored Try.prog W a (.func fn first cap) .plain := fun _ _ _ _ W => run_store Try.prog W _ _ _ rfl
  go_enter Try.func10, Try.ntmps10
  go_wp2_with (first | (go_at_call 39; (refine (HI.out _).mono ?_); rintro e w' ⟨rfl, nd, rfl⟩) | ((with_reducible refine gate_dst (N := 9) rfl ?_); refine Kd.S_lit (Kd.slice 3 (Kd.int .i64)) _ 28 ?hg (N := 9) ?hd (xs := ([] : List (List Int))) (inner := []) (ok := fun _ => True) (okp := fun _ => True) ?hr ?hp (fun _ hk => hk) trivial (Below.refl _ _) (Nat.le_refl _) (by simp) ?_; (case hd => rfl); (case hg => rfl); (case hr => first | (go_simp; done) | (go_simp; rfl)); (case hp => exact (Reps.none _ _)); intro v1 w3 ho hb hg_ hnew_; clear hg_ hnew_; obtain ⟨Ao, co, rfl⟩ := Kd.S_slice ho; have HO := Aside0.mk ho; have HB3 := Aside0.mk (below_step (by repeat (first | exact Below.refl _ _ | apply below_alloc | apply pw_below_drewN | apply below_drew1)) hb : Below w.heap.size w w3); have HB3' := Aside0.mk hb; have hs3 : w.heap.size < w3.heap.size := (by have := hb.size; simp at this; omega); have cz5 : ((w3.alloc (.cells #[.slice Ao 0 co] 22)).alloc (.cells #[.nilFunc] 49)).cell? ⟨w3.heap.size + 1, 0, none⟩ = some .nilFunc := (by rw [World.cell?_alloc_at _ _ _ _ (by simp)]; rfl); have fz5 : ((w3.alloc (.cells #[.slice Ao 0 co] 22)).alloc (.cells #[.nilFunc] 49)).frozen? ⟨w3.heap.size + 1, 0, none⟩ = false := (by rw [World.frozen?_alloc_at _ _ _ _ (by simp)]); have cn3 : w3.cell? ⟨w.heap.size, 0, none⟩ = some (.int .i64 a0) := pw_cell_below hb (show (w.alloc (.cells #[.int .i64 a0] 3)).cell? ⟨w.heap.size, 0, none⟩ = some (.int .i64 a0) from by rw [World.cell?_alloc_at _ _ _ _ rfl]; rfl); have cna := fun (A_ B_ : Obj) => pw_cell_below (below_alloc (below_alloc (Below.refl w3.heap.size w3) A_) B_) cn3; have hbs : w.heap.size + 1 ≤ ((w.alloc (.cells #[.int .i64 a0] 3)).drewN nd).heap.size := (by show _ ≤ (w.alloc (.cells #[.int .i64 a0] 3)).heap.size; simp); have HBS := Aside0.mk hbs; clear ho hb hbs))
  have HST : impl_SelfTelling.St ((w3.alloc (.cells #[.slice Ao 0 co] 22)).alloc (.cells #[.func (.func 40) #[] #[.pointer (some ⟨w.heap.size, 0, none⟩), .pointer (some ⟨w3.heap.size, 0, none⟩), .pointer (some ⟨w3.heap.size + 1, 0, none⟩)]] 49)) a0 w.heap.size w3.heap.size (w3.heap.size + 1) (.slice Ao 0 co) := ⟨cna _ _, by rw [World.cell?_alloc_past _ _ _ (by simp), World.cell?_alloc_at _ _ _ _ rfl]; rfl, by rw [World.frozen?_alloc_past _ _ _ (by simp), World.frozen?_alloc_at _ _ _ _ rfl], by rw [World.cell?_alloc_at _ _ _ _ (by simp)]; rfl⟩
  have HSS := Aside0.mk HST
  have HS3 := Aside0.mk hs3
  have HOo := Aside0.mk (Kd.S_alloc (Kd.S_alloc (Kd.S_mono (ok' := fun k_ => w.heap.size + 1 ≤ k_ ∧ k_ < w3.heap.size) (Kd.S_bound (Kd.S_lower HO.out (show w.heap.size + 1 ≤ _ from HBS.out))) (fun k_ h_ => ⟨h_.2.1, h_.2.2.1⟩)) (.cells #[.slice Ao 0 co] 22)) (.cells #[.func (.func 40) #[] #[.pointer (some ⟨w.heap.size, 0, none⟩), .pointer (some ⟨w3.heap.size, 0, none⟩), .pointer (some ⟨w3.heap.size + 1, 0, none⟩)]] 49))
  have HB5 := Aside0.mk (below_alloc (below_alloc HB3.out (.cells #[.slice Ao 0 co] 22)) (.cells #[.func (.func 40) #[] #[.pointer (some ⟨w.heap.size, 0, none⟩), .pointer (some ⟨w3.heap.size, 0, none⟩), .pointer (some ⟨w3.heap.size + 1, 0, none⟩)]] 49))
  clear HST hs3
  go_wp2_with fail
  refine (impl_SelfTelling_1.calls a0 w.heap.size w3.heap.size (w3.heap.size + 1) ?h1 ?h2 w k (fun _ => False) (fun k_ => w.heap.size + 1 ≤ k_ ∧ k_ < w3.heap.size) (.slice none 0 0) (.slice Ao 0 co) [] a0 [] q _ (Kd.R_nil _ _ _ _ _) (Kd.S_lower HOo.out (Nat.le_succ _)) HSS.out HB5.out ?h3 (fun _ h_ => h_.elim) ?h4 B2.out).mono ?_
  case h1 => have := HS3.out; omega
  case h2 => omega
  case h3 => have := HS3.out; omega
  case h4 => intro k_ h_; exact ⟨by omega, by omega, by omega⟩
  intro e w9 hL
  obtain ⟨rfl, ⟨v9, ⟨cn9, co9, cz9, cf9⟩, hO9⟩, hK9, hB9⟩ := hL
  have HO9 := Aside0.mk hO9
  have HB9 := Aside0.mk hB9
  clear hO9 hK9 hB9
  go_wp2_with fail
  go_ret2
  exact ⟨v9, rfl, Kd.S_mono HO9.out (fun _ _ => trivial), HB9.out⟩

/-! ### laws_big: function 23 -/
def laws_big.f (l0 : List Int) (l1 : List Int) : Option (Bool) := if (l0.length : Int) > 1048576 then (some true) else (some (decide ((l1.length : Int) > (wrap64 (1048576 - (l0.length : Int))))))
set_option maxHeartbeats 8000000 in
set_option maxRecDepth 100000 in
theorem laws_big.calls (A0 : Option Addr) (c0 : Nat) (l0 : List Int) (A1 : Option Addr) (c1 : Nat) (l1 : List Int) (r : Bool) (w : World) (hr0 : Kd.C (Kd.int .u8) w A0 l0.length l0) (hc0 : l0.length ≤ c0) (hr1 : Kd.C (Kd.int .u8) w A1 l1.length l1) (hc1 : l1.length ≤ c1) (h : laws_big.f l0 l1 = some r) :
  Calls Try.prog 23 #[.slice A0 l0.length c0, .slice A1 l1.length c1] w fun e w' => e = .returned (.bool r) ∧ Drawn0 w w' := by
 have HR0 := Aside0.mk hr0
 have HC0 := Aside0.mk hc0
 clear hr0 hc0
 have HR1 := Aside0.mk hr1
 have HC1 := Aside0.mk hc1
 clear hr1 hc1
 have H : (if (l0.length : Int) > 1048576 then (some true) else (some (decide ((l1.length : Int) > (wrap64 (1048576 - (l0.length : Int))))))) = some r := h
 clear h
 by_cases c3 : (l0.length : Int) > 1048576
 ·rw [if_pos c3] at H
  have c3b0 : decide (1048576 < (l0.length : Int)) = true := decide_eq_true c3
  have c3b1 : decide (1048576 < l0.length) = true := decide_eq_true (by omega)
  clear c3
  obtain rfl := Option.some.inj H
  go_enter Try.func23, Try.ntmps23
  go_wp2
  go_ret
  exact ⟨by first | rfl | (simp; done) | (simp [*]; done), by repeat (first | exact Drawn0.refl _ | apply Drawn0.step)⟩
 ·rw [if_neg c3] at H
  have c3b0 : decide (1048576 < (l0.length : Int)) = false := decide_eq_false c3
  have c3b1 : decide (1048576 < l0.length) = false := decide_eq_false (by omega)
  clear c3
  obtain rfl := Option.some.inj H
  go_enter Try.func23, Try.ntmps23
  go_wp2
  go_ret
  exact ⟨by first | rfl | (simp; done) | (simp [*]; done), by repeat (first | exact Drawn0.refl _ | apply Drawn0.step)⟩

/-- A state of type 57 at block g of W; what its slices lead to came in by w0. -/
def IsS57 (w0 W : World) (g : Nat) (f0 : List Int) (f1 : Int) (f2 : Int) : Prop := ∃ A0 c0, W.heap[g]? = some (.cells #[.slice A0 f0.length c0, .int .i64 f1, .int .u64 f2] 57 (0, 0)) ∧ w0.heap.size ≤ g ∧ Kd.C (Kd.int .u8) w0 A0 f0.length f0
theorem IsS57.grown {w0 W : World} {g : Nat} {f0 : List Int} {f1 : Int} {f2 : Int} {W1 : World} {row : Option Nat} (h : IsS57 w0 W g f0 f1 f2) (hw : W.grownBy W1 row) (hne : some g ≠ row) : IsS57 w0 W1 g f0 f1 f2 := by
 obtain ⟨A0, c0, hb, hg, hr0⟩ := h
 exact ⟨A0, c0, blk_grown hb hw hne, hg, hr0⟩
theorem IsS57.own_neN {w0 W : World} {g : Nat} {f0 : List Int} {f1 : Int} {f2 : Int} {α : Type} {d : Kd α} {e : Nat} {base : Nat} {ok : Nat → Prop} {v : Value} {xs : List α} (h : IsS57 w0 W g f0 f1 f2) (ho : Kd.N d e W base ok v xs) (ht : e ≠ 57) : some g ≠ v.ownBlock := by
 obtain ⟨A0, c0, hb, hg, hr0⟩ := h
 exact Kd.N_ne ho hb ht
theorem IsS57.fresh {w0 W : World} {g : Nat} {f0 : List Int} {f1 : Int} {f2 : Int} (h : IsS57 w0 W g f0 f1 f2) : ∀ k, W.heap.size ≤ k → k ≠ g := by
 obtain ⟨A0, c0, hb, hg, hr0⟩ := h
 exact Kd.freshB hb
theorem IsS57.kept {w0 W : World} {g : Nat} {f0 : List Int} {f1 : Int} {f2 : Int} {W1 : World} {S : Nat → Prop} (h : IsS57 w0 W g f0 f1 f2) (hk : Kept W W1 S) (hne : ¬ S g) : IsS57 w0 W1 g f0 f1 f2 := by
 obtain ⟨A0, c0, hb, hg, hr0⟩ := h
 exact ⟨A0, c0, blk_kept hb hk hne, hg, hr0⟩
theorem IsS57.below {w0 W : World} {g : Nat} {f0 : List Int} {f1 : Int} {f2 : Int} {W1 : World} (h : IsS57 w0 W g f0 f1 f2) (hw : Below W.heap.size W W1) : IsS57 w0 W1 g f0 f1 f2 := h.grown (grown_of_below hw none) (by simp)
theorem IsS57.alloc {w0 W : World} {g : Nat} {f0 : List Int} {f1 : Int} {f2 : Int} (h : IsS57 w0 W g f0 f1 f2) (o : Obj) : IsS57 w0 (W.alloc o) g f0 f1 f2 := h.below (below_alloc (Below.refl _ _) o)
theorem IsS57.drewN {w0 W : World} {g : Nat} {f0 : List Int} {f1 : Int} {f2 : Int} (h : IsS57 w0 W g f0 f1 f2) (m : Nat) : IsS57 w0 (W.drewN m) g f0 f1 f2 := h
theorem IsS57.drew {w0 W : World} {g : Nat} {f0 : List Int} {f1 : Int} {f2 : Int} (h : IsS57 w0 W g f0 f1 f2) : IsS57 w0 W.drew g f0 f1 f2 := h
theorem IsS57.at_ {w0 W : World} {g : Nat} {f0 : List Int} {f1 : Int} {f2 : Int} {w' : World} {m : Nat} (hq : W.drewN m = w') (h : IsS57 w0 W g f0 f1 f2) : IsS57 w0 w' g f0 f1 f2 := by subst hq; exact IsS57.drewN h m
theorem IsS57.apart {w0 W : World} {g : Nat} {f0 : List Int} {f1 : Int} {f2 : Int} {α : Type} {d : Kd α} {e : Nat} {base : Nat} {ok : Nat → Prop} {v : Value} {xs : List α} (h : IsS57 w0 W g f0 f1 f2) (ho : d.R e W base ok v xs) (ht : ∀ q, q ∈ e :: d.E → q ≠ 57) : d.R e W base (fun k => ok k ∧ k ≠ g) v xs := by
 obtain ⟨A0, c0, hb, hg, hr0⟩ := h
 exact Kd.R_types ho hb ht
theorem IsS57.own_ne {w0 W : World} {g : Nat} {f0 : List Int} {f1 : Int} {f2 : Int} {α : Type} {d : Kd α} {e : Nat} {base : Nat} {ok : Nat → Prop} {v : Value} {xs : List α} (h : IsS57 w0 W g f0 f1 f2) (ho : d.R e W base ok v xs) (ht : e ≠ 57) : some g ≠ v.ownBlock := by
 obtain ⟨A0, c0, hb, hg, hr0⟩ := h
 exact Kd.R_ne ho hb ht
theorem IsS57.apartQ {w0 W : World} {g : Nat} {f0 : List Int} {f1 : Int} {f2 : Int} {α : Type} {d : Kd α} {e : Nat} {base : Nat} {ok : Nat → Prop} {v : Value} {xs : List α} (h : IsS57 w0 W g f0 f1 f2) (ho : d.Q e W base ok v xs) (ht : ∀ q, q ∈ e :: d.E → q ≠ 57) : d.Q e W base (fun k => ok k ∧ k ≠ g) v xs := by
 obtain ⟨A0, c0, hb, hg, hr0⟩ := h
 exact Kd.Q_types ho hb ht
theorem IsS57.own_neQ {w0 W : World} {g : Nat} {f0 : List Int} {f1 : Int} {f2 : Int} {α : Type} {d : Kd α} {e : Nat} {base : Nat} {ok : Nat → Prop} {v : Value} {xs : List α} (h : IsS57 w0 W g f0 f1 f2) (ho : d.Q e W base ok v xs) (ht : e ≠ 57) : some g ≠ v.ownBlock := by
 obtain ⟨A0, c0, hb, hg, hr0⟩ := h
 exact Kd.Q_ne ho hb ht
theorem IsS57.apartS {w0 W : World} {g : Nat} {f0 : List Int} {f1 : Int} {f2 : Int} {α : Type} {d : Kd α} {e : Nat} {base : Nat} {ok : Nat → Prop} {v : Value} {xs : List α} (h : IsS57 w0 W g f0 f1 f2) (ho : d.S e W base ok v xs) (ht : ∀ q, q ∈ e :: d.E → q ≠ 57) : d.S e W base (fun k => ok k ∧ k ≠ g) v xs := by
 obtain ⟨A0, c0, hb, hg, hr0⟩ := h
 exact Kd.S_types ho hb ht
theorem IsS57.own_neS {w0 W : World} {g : Nat} {f0 : List Int} {f1 : Int} {f2 : Int} {α : Type} {d : Kd α} {e : Nat} {base : Nat} {ok : Nat → Prop} {v : Value} {xs : List α} (h : IsS57 w0 W g f0 f1 f2) (ho : d.S e W base ok v xs) (ht : e ≠ 57) : some g ≠ v.ownBlock := by
 obtain ⟨A0, c0, hb, hg, hr0⟩ := h
 exact Kd.S_ne ho hb ht
theorem IsS57.lt {w0 W : World} {g : Nat} {f0 : List Int} {f1 : Int} {f2 : Int} (h : IsS57 w0 W g f0 f1 f2) : g < W.heap.size := by
 obtain ⟨A0, c0, hb, hg, hr0⟩ := h
 exact blk_lt hb
theorem IsS57.ge {w0 W : World} {g : Nat} {f0 : List Int} {f1 : Int} {f2 : Int} (h : IsS57 w0 W g f0 f1 f2) : w0.heap.size ≤ g := by
 obtain ⟨A0, c0, hb, hg, hr0⟩ := h
 exact hg
theorem IsS57.ne_blk {w0 W : World} {g : Nat} {f0 : List Int} {f1 : Int} {f2 : Int} {a : Nat} {cs : Array Value} {t : TypeId} {fr : Nat × Nat} (h : IsS57 w0 W g f0 f1 f2) (hb2 : W.heap[a]? = some (.cells cs t fr)) (ht : t ≠ 57) : g ≠ a := by
 obtain ⟨A0, c0, hb, hg, hr0⟩ := h
 rintro rfl
 rw [hb] at hb2
 injection hb2 with hb2
 injection hb2 with _ ht2
 exact ht ht2.symm
theorem IsS57.far {w0 W : World} {g : Nat} {f0 : List Int} {f1 : Int} {f2 : Int} {p : Addr} (h : IsS57 w0 W g f0 f1 f2) (hne : g ≠ p.block) (u : Value) : IsS57 w0 (W.setCell p u) g f0 f1 f2 := by
 obtain ⟨A0, c0, hb, hg, hr0⟩ := h
 exact ⟨A0, c0, blk_far hb hne u, hg, hr0⟩
theorem cellS57_0 {W : World} {g : Nat} {A0 : Option Addr} {c0 : Nat} {f0 : List Int} {f1 : Int} {f2 : Int} (h : W.heap[g]? = some (.cells #[.slice A0 f0.length c0, .int .i64 f1, .int .u64 f2] 57 (0, 0))) : W.cell? ⟨g, 0, none⟩ = some (.slice A0 f0.length c0) := (blk_cell h 0).trans rfl
theorem cellS57_1 {W : World} {g : Nat} {A0 : Option Addr} {c0 : Nat} {f0 : List Int} {f1 : Int} {f2 : Int} (h : W.heap[g]? = some (.cells #[.slice A0 f0.length c0, .int .i64 f1, .int .u64 f2] 57 (0, 0))) : W.cell? ⟨g, 1, none⟩ = some (.int .i64 f1) := (blk_cell h 1).trans rfl
theorem IsS57.set_1 {w0 W : World} {g : Nat} {f0 : List Int} {f1 : Int} {f2 : Int} (h : IsS57 w0 W g f0 f1 f2) (x : Int) : IsS57 w0 (W.setCell ⟨g, 1, none⟩ (.int .i64 x)) g f0 x f2 := by
 obtain ⟨A0, c0, hb, hg, hr0⟩ := h
 exact ⟨A0, c0, by simpa using blk_set hb 1 (.int .i64 x), hg, hr0⟩
theorem cellS57_2 {W : World} {g : Nat} {A0 : Option Addr} {c0 : Nat} {f0 : List Int} {f1 : Int} {f2 : Int} (h : W.heap[g]? = some (.cells #[.slice A0 f0.length c0, .int .i64 f1, .int .u64 f2] 57 (0, 0))) : W.cell? ⟨g, 2, none⟩ = some (.int .u64 f2) := (blk_cell h 2).trans rfl
theorem IsS57.set_2 {w0 W : World} {g : Nat} {f0 : List Int} {f1 : Int} {f2 : Int} (h : IsS57 w0 W g f0 f1 f2) (x : Int) : IsS57 w0 (W.setCell ⟨g, 2, none⟩ (.int .u64 x)) g f0 f1 x := by
 obtain ⟨A0, c0, hb, hg, hr0⟩ := h
 exact ⟨A0, c0, by simpa using blk_set hb 2 (.int .u64 x), hg, hr0⟩
theorem IsS57.new (w0 W : World) (A0 : Option Addr) (c0 : Nat) (f0 : List Int) (f1 : Int) (f2 : Int) (hB : Below w0.heap.size w0 W) (hr0 : Kd.C (Kd.int .u8) w0 A0 f0.length f0) : IsS57 w0 (W.alloc (.cells #[.slice A0 f0.length c0, .int .i64 f1, .int .u64 f2] 57)) W.heap.size f0 f1 f2 := ⟨A0, c0, by simpa using heap_alloc_new W _, hB.size, hr0⟩

/-! ### spec_l1Cur_next: function 76 -/
def spec_l1Cur_next.f (s0_0 : List Int) (s0_1 : Int) (s0_2 : Int) : Option (Int × Int × Int) := if s0_1 < (s0_0.length : Int) then (if 0 ≤ s0_1 then (if (wrap64 (s0_1 + 1)) ≤ (s0_0.length : Int) then (some (wrap64 (rd s0_0 s0_1), wrap64 (s0_1 + 1), IntKind.u64.wrap ((IntKind.u64.wrap ((IntKind.u64.wrap (s0_2 * 6364136223846793005)) + (IntKind.u64.wrap (wrap64 (rd s0_0 s0_1))))) + 1442695040888963407))) else (some (wrap64 (Go.bits .and .u64 ((IntKind.u64.wrap ((IntKind.u64.wrap ((IntKind.u64.wrap (s0_2 * 6364136223846793005)) + (IntKind.u64.wrap (wrap64 (rd s0_0 s0_1))))) + 1442695040888963407)) / 1099511627776) 255), wrap64 (s0_1 + 1), IntKind.u64.wrap ((IntKind.u64.wrap ((IntKind.u64.wrap (s0_2 * 6364136223846793005)) + (IntKind.u64.wrap (wrap64 (rd s0_0 s0_1))))) + 1442695040888963407)))) else (none)) else (if (wrap64 (s0_1 + 1)) ≤ (s0_0.length : Int) then (some (0, wrap64 (s0_1 + 1), IntKind.u64.wrap ((IntKind.u64.wrap ((IntKind.u64.wrap (s0_2 * 6364136223846793005)))) + 1442695040888963407))) else (some (wrap64 (Go.bits .and .u64 ((IntKind.u64.wrap ((IntKind.u64.wrap ((IntKind.u64.wrap (s0_2 * 6364136223846793005)))) + 1442695040888963407)) / 1099511627776) 255), wrap64 (s0_1 + 1), IntKind.u64.wrap ((IntKind.u64.wrap ((IntKind.u64.wrap (s0_2 * 6364136223846793005)))) + 1442695040888963407))))
set_option maxHeartbeats 8000000 in
set_option maxRecDepth 100000 in
theorem spec_l1Cur_next.calls (g : Nat) (s0_0 : List Int) (s0_1 : Int) (s0_2 : Int) (r1 : Int) (r2 : Int) (r3 : Int) (w0 w : World) (hI : IsS57 w0 w g s0_0 s0_1 s0_2) (hB : Below w0.heap.size w0 w) (h : spec_l1Cur_next.f s0_0 s0_1 s0_2 = some (r1, r2, r3)) :
  Calls Try.prog 76 #[.pointer (some ⟨g, 0, none⟩)] w fun e w' => e = .returned (.int .i64 r1) ∧ IsS57 w0 w' g s0_0 r2 r3 ∧ Below w0.heap.size w0 w' ∧ KeepBut w w' g none := by
 have HI0 := Aside0.mk hI
 have HK := Aside0.mk (KeepBut.refl w g none)
 have HL := Aside0.mk hB.size
 clear hI
 have HW0 := Aside0.mk hB.size
 have HB := Aside0.mk hB
 clear hB
 have H : (if s0_1 < (s0_0.length : Int) then (if 0 ≤ s0_1 then (if (wrap64 (s0_1 + 1)) ≤ (s0_0.length : Int) then (some (wrap64 (rd s0_0 s0_1), wrap64 (s0_1 + 1), IntKind.u64.wrap ((IntKind.u64.wrap ((IntKind.u64.wrap (s0_2 * 6364136223846793005)) + (IntKind.u64.wrap (wrap64 (rd s0_0 s0_1))))) + 1442695040888963407))) else (some (wrap64 (Go.bits .and .u64 ((IntKind.u64.wrap ((IntKind.u64.wrap ((IntKind.u64.wrap (s0_2 * 6364136223846793005)) + (IntKind.u64.wrap (wrap64 (rd s0_0 s0_1))))) + 1442695040888963407)) / 1099511627776) 255), wrap64 (s0_1 + 1), IntKind.u64.wrap ((IntKind.u64.wrap ((IntKind.u64.wrap (s0_2 * 6364136223846793005)) + (IntKind.u64.wrap (wrap64 (rd s0_0 s0_1))))) + 1442695040888963407)))) else (none)) else (if (wrap64 (s0_1 + 1)) ≤ (s0_0.length : Int) then (some (0, wrap64 (s0_1 + 1), IntKind.u64.wrap ((IntKind.u64.wrap ((IntKind.u64.wrap (s0_2 * 6364136223846793005)))) + 1442695040888963407))) else (some (wrap64 (Go.bits .and .u64 ((IntKind.u64.wrap ((IntKind.u64.wrap ((IntKind.u64.wrap (s0_2 * 6364136223846793005)))) + 1442695040888963407)) / 1099511627776) 255), wrap64 (s0_1 + 1), IntKind.u64.wrap ((IntKind.u64.wrap ((IntKind.u64.wrap (s0_2 * 6364136223846793005)))) + 1442695040888963407))))) = some (r1, r2, r3) := h
 clear h
 by_cases c2 : s0_1 < (s0_0.length : Int)
 ·rw [if_pos c2] at H
  have c2b0 : decide (s0_1 < (s0_0.length : Int)) = true := decide_eq_true c2
  clear c2
  by_cases c3 : 0 ≤ s0_1
  ·rw [if_pos c3] at H
   have c3b0 : decide (0 ≤ s0_1) = true := decide_eq_true c3
   clear c3
   by_cases c4 : (wrap64 (s0_1 + 1)) ≤ (s0_0.length : Int)
   ·rw [if_pos c4] at H
    have c4b0 : decide ((wrap64 (s0_1 + 1)) ≤ (s0_0.length : Int)) = true := decide_eq_true c4
    clear c4
    simp only [Option.some.injEq, Prod.mk.injEq] at H
    obtain ⟨rfl, rfl, rfl⟩ := H
    obtain ⟨ASz5_0, cSz5_0, HGz5, hgz5, HSz5_0⟩ := HI0.out
    have hcz5_0 := cellS57_0 HGz5
    have hcz5_1 := cellS57_1 HGz5
    have hcz5_2 := cellS57_2 HGz5
    have hfz5_1 := blk_frozen HGz5 1
    have hfz5_2 := blk_frozen HGz5 2
    clear HGz5 hgz5
    have p153 : 0 ≤ (s0_1 : Int) := of_decide_eq_true (by first | (with_reducible assumption) | assumption)
    have q153 : s0_1 < (s0_0.length : Int) := of_decide_eq_true (by first | (with_reducible assumption) | assumption)
    obtain ⟨ad153, e153, hx153_0⟩ := Kd.at_int HSz5_0 s0_1 p153 q153
    cases e153
    replace hx153_0 := pw_cell_below HB.out hx153_0
    replace p153 := eq_true p153
    replace q153 := eq_true q153
    go_enter Try.func76, Try.ntmps76
    go_wp2
    repeat (go_quiet (fail); try go_wp2)
    go_ret
    exact ⟨by first | rfl | (simp [errW_none, errW_some] <;> rfl) | (simp [*, errW_none, errW_some] <;> rfl), by repeat (first | (with_reducible first | exact HI0.out | apply IsS57.alloc | apply IsS57.drewN | apply IsS57.drew | apply IsS57.set_1 | apply IsS57.set_2) | exact HI0.out), by repeat (first | (with_reducible first | exact HB.out | apply below_alloc | apply pw_below_drewN | apply below_drew1 | refine below_set ?_ (IsS57.ge HI0.out)) | exact HB.out), by repeat (first | (with_reducible first | exact HK.out | apply KeepBut.set_ | apply keep_drewN | apply keep_drew | apply keep_alloc) | exact HK.out)⟩
   ·rw [if_neg c4] at H
    have c4b0 : decide ((wrap64 (s0_1 + 1)) ≤ (s0_0.length : Int)) = false := decide_eq_false c4
    clear c4
    simp only [Option.some.injEq, Prod.mk.injEq] at H
    obtain ⟨rfl, rfl, rfl⟩ := H
    obtain ⟨ASz6_0, cSz6_0, HGz6, hgz6, HSz6_0⟩ := HI0.out
    have hcz6_0 := cellS57_0 HGz6
    have hcz6_1 := cellS57_1 HGz6
    have hcz6_2 := cellS57_2 HGz6
    have hfz6_1 := blk_frozen HGz6 1
    have hfz6_2 := blk_frozen HGz6 2
    clear HGz6 hgz6
    have p153 : 0 ≤ (s0_1 : Int) := of_decide_eq_true (by first | (with_reducible assumption) | assumption)
    have q153 : s0_1 < (s0_0.length : Int) := of_decide_eq_true (by first | (with_reducible assumption) | assumption)
    obtain ⟨ad153, e153, hx153_0⟩ := Kd.at_int HSz6_0 s0_1 p153 q153
    cases e153
    replace hx153_0 := pw_cell_below HB.out hx153_0
    replace p153 := eq_true p153
    replace q153 := eq_true q153
    go_enter Try.func76, Try.ntmps76
    go_wp2
    repeat (go_quiet (fail); try go_wp2)
    go_ret
    exact ⟨by first | rfl | (simp [errW_none, errW_some] <;> rfl) | (simp [*, errW_none, errW_some] <;> rfl), by repeat (first | (with_reducible first | exact HI0.out | apply IsS57.alloc | apply IsS57.drewN | apply IsS57.drew | apply IsS57.set_1 | apply IsS57.set_2) | exact HI0.out), by repeat (first | (with_reducible first | exact HB.out | apply below_alloc | apply pw_below_drewN | apply below_drew1 | refine below_set ?_ (IsS57.ge HI0.out)) | exact HB.out), by repeat (first | (with_reducible first | exact HK.out | apply KeepBut.set_ | apply keep_drewN | apply keep_drew | apply keep_alloc) | exact HK.out)⟩
  ·rw [if_neg c3] at H
   exact absurd H (by simp)
 ·rw [if_neg c2] at H
  have c2b0 : decide (s0_1 < (s0_0.length : Int)) = false := decide_eq_false c2
  clear c2
  by_cases c7 : (wrap64 (s0_1 + 1)) ≤ (s0_0.length : Int)
  ·rw [if_pos c7] at H
   have c7b0 : decide ((wrap64 (s0_1 + 1)) ≤ (s0_0.length : Int)) = true := decide_eq_true c7
   clear c7
   simp only [Option.some.injEq, Prod.mk.injEq] at H
   obtain ⟨rfl, rfl, rfl⟩ := H
   obtain ⟨ASz8_0, cSz8_0, HGz8, hgz8, HSz8_0⟩ := HI0.out
   have hcz8_0 := cellS57_0 HGz8
   have hcz8_1 := cellS57_1 HGz8
   have hcz8_2 := cellS57_2 HGz8
   have hfz8_1 := blk_frozen HGz8 1
   have hfz8_2 := blk_frozen HGz8 2
   clear HGz8 hgz8
   go_enter Try.func76, Try.ntmps76
   go_wp2
   repeat (go_quiet (fail); try go_wp2)
   go_ret
   exact ⟨by first | rfl | (simp [errW_none, errW_some] <;> rfl) | (simp [*, errW_none, errW_some] <;> rfl), by repeat (first | (with_reducible first | exact HI0.out | apply IsS57.alloc | apply IsS57.drewN | apply IsS57.drew | apply IsS57.set_1 | apply IsS57.set_2) | exact HI0.out), by repeat (first | (with_reducible first | exact HB.out | apply below_alloc | apply pw_below_drewN | apply below_drew1 | refine below_set ?_ (IsS57.ge HI0.out)) | exact HB.out), by repeat (first | (with_reducible first | exact HK.out | apply KeepBut.set_ | apply keep_drewN | apply keep_drew | apply keep_alloc) | exact HK.out)⟩
  ·rw [if_neg c7] at H
   have c7b0 : decide ((wrap64 (s0_1 + 1)) ≤ (s0_0.length : Int)) = false := decide_eq_false c7
   clear c7
   simp only [Option.some.injEq, Prod.mk.injEq] at H
   obtain ⟨rfl, rfl, rfl⟩ := H
   obtain ⟨ASz9_0, cSz9_0, HGz9, hgz9, HSz9_0⟩ := HI0.out
   have hcz9_0 := cellS57_0 HGz9
   have hcz9_1 := cellS57_1 HGz9
   have hcz9_2 := cellS57_2 HGz9
   have hfz9_1 := blk_frozen HGz9 1
   have hfz9_2 := blk_frozen HGz9 2
   clear HGz9 hgz9
   go_enter Try.func76, Try.ntmps76
   go_wp2
   repeat (go_quiet (fail); try go_wp2)
   go_ret
   exact ⟨by first | rfl | (simp [errW_none, errW_some] <;> rfl) | (simp [*, errW_none, errW_some] <;> rfl), by repeat (first | (with_reducible first | exact HI0.out | apply IsS57.alloc | apply IsS57.drewN | apply IsS57.drew | apply IsS57.set_1 | apply IsS57.set_2) | exact HI0.out), by repeat (first | (with_reducible first | exact HB.out | apply below_alloc | apply pw_below_drewN | apply below_drew1 | refine below_set ?_ (IsS57.ge HI0.out)) | exact HB.out), by repeat (first | (with_reducible first | exact HK.out | apply KeepBut.set_ | apply keep_drewN | apply keep_drew | apply keep_alloc) | exact HK.out)⟩

end Go.Proofs.Ytaldmgfhkaiefaa.PFnSelfTellingLists
