/- FnExactCircleOf: whatever two whole numbers are given, the program's CircleOf and the reference's hand back the same list and the same bool, twice, and what is written into the first list stays there. -/
import Derived.Test.YtaldmgfhkaiefaaPFnExactCircleOfx
namespace Go.Proofs.Ytaldmgfhkaiefaa.Pure
open Go.RowKit Go.Proofs.Ytaldmgfhkaiefaa.PFnExactCircleOf Go.Proofs.YtaldmgfhkaiefaaW.PrintWords Go.Proofs.YtaldmgfhkaiefaaW.PrintLast
set_option linter.unusedVariables false
set_option linter.unusedSimpArgs false
/-! ### words on rounds and on int's wraps -/
theorem Ev.pos {α : Type} {c : Prop} [Decidable c] {g f : Nat → Option α} {r : α} (hc : c) (h : Ev g r) : Ev (fun k => if c then g k else f k) r := Ev.congr (fun _ => if_pos hc) h
theorem Ev.neg {α : Type} {c : Prop} [Decidable c] {g f : Nat → Option α} {r : α} (hc : ¬ c) (h : Ev f r) : Ev (fun k => if c then g k else f k) r := Ev.congr (fun _ => if_neg hc) h
theorem Ev.some {α : Type} {a r : α} (h : a = r) : Ev (fun _ => Option.some a) r := h ▸ Ev.now a
theorem Ev.bind1 {α β : Type} {g : Nat → Option α} {f : Nat → α → Option β} {a : α} {r : β} (h : Ev g a) (k : Ev (fun n => f n a) r) : Ev (fun n => (g n).bind (f n)) r := Ev.bind h k
theorem Ev.pure_bind {α β : Type} {o : Option α} {f : Nat → α → Option β} {a : α} {r : β} (h : o = Option.some a) (k : Ev (fun n => f n a) r) : Ev (fun n => o.bind (f n)) r := by
  subst h; exact k
theorem Ev.two {α β : Type} {g : Nat → Option α} {f : Nat → Option β} {a : α} {b : β} (h : Ev g a) (k : Ev f b) : ∃ n, g n = Option.some a ∧ f n = Option.some b := by
  obtain ⟨K, h⟩ := h
  obtain ⟨K', k⟩ := k
  exact ⟨max K K', h _ (by omega), k _ (by omega)⟩
theorem w64 {n : Int} (h0 : -9223372036854775808 ≤ n) (h1 : n < 9223372036854775808) : wrap64 n = n := by unfold wrap64; omega
theorem w64_emod (n : Int) : wrap64 n % 18446744073709551616 = n % 18446744073709551616 := by unfold wrap64; omega
theorem w64_congr {a b : Int} (h : a % 18446744073709551616 = b % 18446744073709551616) : wrap64 a = wrap64 b := by unfold wrap64; omega
theorem w64_lo (n : Int) : -9223372036854775808 ≤ wrap64 n := by unfold wrap64; omega
theorem w64_hi (n : Int) : wrap64 n < 9223372036854775808 := by unfold wrap64; omega
theorem int_wf {a : Int} (h : (Lit.int .i64 a).wf = true) : -9223372036854775808 ≤ a ∧ a ≤ 9223372036854775807 := by
  simp [Lit.wf] at h
  exact ⟨h.1, h.2⟩

/-! ### factors, sums of divisors: both texts, 1 ≤ n ≤ 10^9 -/
def prodL : List Int → Int
  | [] => 1
  | x :: xs => x * prodL xs
theorem prodL_append : ∀ (a b : List Int), prodL (a ++ b) = prodL a * prodL b
  | [], b => by simp [prodL]
  | x :: a, b => by simp only [List.cons_append, prodL, prodL_append a b, Int.mul_assoc]
theorem prodL_pos : ∀ (a : List Int), (∀ x ∈ a, 2 ≤ x) → 1 ≤ prodL a
  | [], _ => by simp [prodL]
  | x :: a, h => by
    have h1 := prodL_pos a (fun y hy => h y (List.mem_cons_of_mem _ hy))
    have h2 := h x List.mem_cons_self
    have := Int.mul_le_mul (show 1 ≤ x by omega) h1 (by omega) (by omega)
    simp only [prodL]; omega
theorem factors_same : ∀ k, (∀ x y z, impl_factors.l0 k x y z = spec_dvFactors.l0 k x y z) ∧ (∀ x y z, impl_factors.l1 k x y z = spec_dvFactors.l1 k x y z)
  | 0 => ⟨fun _ _ _ => rfl, fun _ _ _ => rfl⟩
  | k + 1 => by
    obtain ⟨h0, h1⟩ := factors_same k
    exact ⟨fun x y z => by simp only [impl_factors.l0, spec_dvFactors.l0, h1], fun x y z => by simp only [impl_factors.l1, spec_dvFactors.l1, h0, h1]⟩
theorem sq_le {a b : Int} (h0 : 0 ≤ a) (h : a ≤ b) : a * a ≤ b * b := Int.mul_le_mul h h h0 (by omega)
theorem factors_ev (d : Nat) :
    (∀ (n p : Int) (out : List Int), 1 ≤ n → n ≤ 1000000000 → 2 ≤ p → p ≤ 31623 → out.length + n ≤ 1000000000 → (∀ x ∈ out, 2 ≤ x) → 2 * (31624 - p) + 1 + n ≤ d →
      ∃ fs, Ev (fun k => spec_dvFactors.l0 k n out p) fs ∧ prodL fs = prodL out * n ∧ (∀ x ∈ fs, 2 ≤ x) ∧ fs.length ≤ 1000000000) ∧
    (∀ (n p : Int) (out : List Int), 1 ≤ n → n ≤ 1000000000 → 2 ≤ p → p ≤ 31622 → out.length + n ≤ 1000000000 → (∀ x ∈ out, 2 ≤ x) → 2 * (31624 - p) + n ≤ d →
      ∃ fs, Ev (fun k => spec_dvFactors.l1 k n out p) fs ∧ prodL fs = prodL out * n ∧ (∀ x ∈ fs, 2 ≤ x) ∧ fs.length ≤ 1000000000) := by
  induction d with
  | zero => exact ⟨fun n p out _ _ _ _ _ _ _ => by omega, fun n p out _ _ _ _ _ _ _ => by omega⟩
  | succ d ih =>
    obtain ⟨ih0, ih1⟩ := ih
    refine ⟨fun n p out h1 h2 h3 h4 h5 h6 h7 => ?_, fun n p out h1 h2 h3 h4 h5 h6 h7 => ?_⟩
    · have hpp := sq_le (by omega) h4
      have hp0 := sq_le (by omega) h3
      have hw : wrap64 (p * p) = p * p := w64 (by omega) (by omega)
      by_cases c : p * p ≤ n
      · have hp : p ≤ 31622 := by
          by_cases hh : p ≤ 31622
          · exact hh
          · have : p = 31623 := by omega
            subst this; omega
        obtain ⟨fs, e, r⟩ := ih1 n p out h1 h2 h3 hp h5 h6 (by omega)
        exact ⟨fs, Ev.step (fun k => by rw [spec_dvFactors.l0]) (Ev.pos (by rw [hw]; exact c) e), r⟩
      · by_cases c1 : n > 1
        · refine ⟨out ++ [n], Ev.step (fun k => by rw [spec_dvFactors.l0]) (Ev.neg (by rw [hw]; exact c) (Ev.pos c1 (Ev.pos (by omega) (Ev.now _)))), by simp [prodL_append, prodL], ?_, by simp; omega⟩
          intro x hx
          rcases List.mem_append.1 hx with hx | hx
          · exact h6 x hx
          · simp at hx; omega
        · have : n = 1 := by omega
          subst this
          exact ⟨out, Ev.step (fun k => by rw [spec_dvFactors.l0]) (Ev.neg (by rw [hw]; exact c) (Ev.neg c1 (Ev.now _))), by simp, h6, by omega⟩
    · have hm : Int.tmod n p = n % p := Int.tmod_eq_emod_of_nonneg (by omega)
      have hd : Int.tdiv n p = n / p := Int.tdiv_eq_ediv_of_nonneg (by omega)
      by_cases c : n % p = 0
      · have he : n = p * (n / p) := by have := Int.mul_ediv_add_emod n p; omega
        have hq1 : 1 ≤ n / p := by
          by_cases hz : 1 ≤ n / p
          · exact hz
          · have hz2 : n / p ≤ 0 := by omega
            have := Int.mul_le_mul_of_nonneg_left hz2 (show 0 ≤ p by omega)
            omega
        have hq2 : 2 * (n / p) ≤ p * (n / p) := Int.mul_le_mul_of_nonneg_right h3 (by omega)
        have hw : wrap64 (Int.tdiv n p) = n / p := by rw [hd]; exact w64 (by omega) (by omega)
        obtain ⟨fs, e, r1, r2, r3⟩ := ih1 (n / p) p (out ++ [p]) hq1 (by omega) h3 h4 (by simp; omega) (fun x hx => by
          rcases List.mem_append.1 hx with hx | hx
          · exact h6 x hx
          · simp at hx; omega) (by omega)
        refine ⟨fs, Ev.step (fun k => by rw [spec_dvFactors.l1]) (Ev.neg (by omega) (Ev.pos (by rw [hm]; exact c) (Ev.pos (by omega) (by rw [hw]; exact e)))), ?_, r2, r3⟩
        rw [r1, prodL_append]; simp only [prodL, Int.mul_one]; rw [Int.mul_assoc, ← he]
      · have hw : wrap64 (p + 1) = p + 1 := w64 (by omega) (by omega)
        obtain ⟨fs, e, r⟩ := ih0 n (p + 1) out h1 h2 (by omega) (by omega) h5 h6 (by omega)
        exact ⟨fs, Ev.step (fun k => by rw [spec_dvFactors.l1]) (Ev.neg (by omega) (Ev.neg (by rw [hm]; exact c) (by rw [hw]; exact e))), r⟩
theorem factors_all (n : Int) (h1 : 1 ≤ n) (h2 : n ≤ 1000000000) : ∃ fs, Ev (fun k => spec_dvFactors.f k n) fs ∧ Ev (fun k => impl_factors.f k n) fs ∧ prodL fs = n ∧ (∀ x ∈ fs, 2 ≤ x) ∧ fs.length ≤ 1000000000 := by
  obtain ⟨fs, e, r1, r2, r3⟩ := (factors_ev (2 * 31624 + 1 + n.toNat)).1 n 2 [] h1 h2 (by omega) (by omega) (by simp; omega) (by simp) (by omega)
  exact ⟨fs, e, Ev.congr (fun k => (factors_same k).1 _ _ _) e, by simpa [prodL] using r1, r2, r3⟩
theorem two_sub {P : Int} : 2 * P - 1 ≤ P * P := by
  have h : 0 ≤ (P - 1) * (P - 1) := by
    rcases Int.le_total 0 (P - 1) with h | h
    · exact Int.mul_nonneg h h
    · exact Int.mul_nonneg_of_nonpos_of_nonpos h h
  rw [Int.sub_mul, Int.mul_sub] at h; omega
/-- One stretch of equal factors, from any of its places on. -/
theorem sums_ev (xs0 : List Int) (hl0 : xs0.length ≤ 1000000000) : ∀ (xs : List Int) (i : Nat), xs0.drop i = xs → i ≤ xs0.length → (∀ x ∈ xs, 2 ≤ x) →
    ∀ (s c part P p j : Int), 2 ≤ p → 1 ≤ P → P ≤ part → part ≤ 2 * P - 1 → part * p + 1 = part + P * p → 1 ≤ s → s * (P * prodL xs * (P * prodL xs)) ≤ 1000000000000000000 →
    ∃ T c', Ev (fun k => impl_divisors.l1 k s c xs part j p) (s * T, c') ∧ Ev (fun k => spec_dvSums.l1 k s c xs0 i p P j part) (s * T, c') ∧ P * prodL xs ≤ T ∧ T ≤ P * prodL xs * (P * prodL xs) ∧ (P < part → P * prodL xs + 1 ≤ T) := by
  intro xs
  induction xs with
  | nil =>
    intro i hd hi hx s c part P p j hp hP h1 h2 h3 hs hb
    have hin : ¬ (i : Int) < (xs0.length : Int) := by
      intro h
      have : (xs0.drop i).length = 0 := by rw [hd]; rfl
      rw [List.length_drop] at this; omega
    simp only [prodL, Int.mul_one] at hb ⊢
    have hPP := @two_sub P
    have hsp : s * part ≤ s * (P * P) := Int.mul_le_mul_of_nonneg_left (by omega) (by omega)
    have hsp0 : 0 ≤ s * part := Int.mul_nonneg (by omega) (by omega)
    have hw : wrap64 (s * part) = s * part := w64 (by omega) (by omega)
    refine ⟨part, wrap64 (c * wrap64 (j + 1)), ?_, ?_, by omega, by omega, by omega⟩
    · refine Ev.step (fun k => by rw [impl_divisors.l1]) (Ev.neg (by simp) ?_)
      exact Ev.step (fun k => by rw [impl_divisors.l0]) (Ev.neg (by simp) (by rw [hw]; exact Ev.now _))
    · refine Ev.step (fun k => by rw [spec_dvSums.l1]) (Ev.neg hin ?_)
      exact Ev.step (fun k => by rw [spec_dvSums.l0]) (Ev.neg hin (by rw [hw]; exact Ev.now _))
  | cons x r ih =>
    intro i hd hi hx s c part P p j hp hP h1 h2 h3 hs hb
    have hin : (i : Int) < (xs0.length : Int) := by
      have : (xs0.drop i).length = r.length + 1 := by rw [hd]; rfl
      rw [List.length_drop] at this; omega
    have hget : rd xs0 (i : Int) = x := by
      unfold rd
      have : (xs0.drop i)[0]? = some x := by rw [hd]; rfl
      rw [List.getElem?_drop] at this
      simp only [Nat.add_zero] at this
      simp [List.getD_eq_getElem?_getD, this]
    have hrd : rd (x :: r) 0 = x := rfl
    have hlen : (0 : Int) < ((x :: r).length : Int) := Int.ofNat_lt.2 (Nat.succ_pos _)
    have hlen1 : (1 : Int) ≤ ((x :: r).length : Int) := Int.ofNat_le.2 (Nat.succ_pos _)
    have hdr : xs0.drop (i + 1) = r := by rw [← List.drop_drop, hd]; rfl
    have hx2 := hx x List.mem_cons_self
    have hxr : ∀ y ∈ r, 2 ≤ y := fun y hy => hx y (List.mem_cons_of_mem _ hy)
    have hr1 := prodL_pos r hxr
    have hwi : wrap64 ((i : Int) + 1) = ((i + 1 : Nat) : Int) := by rw [w64 (by omega) (by omega)]; rfl
    simp only [prodL] at hb ⊢
    by_cases hxp : x = p
    · subst hxp
      have hQ : P * (x * prodL r) = P * x * prodL r := by rw [Int.mul_assoc]
      rw [hQ] at hb ⊢
      have hPx : 1 * 2 ≤ P * x := Int.mul_le_mul hP hx2 (by omega) (by omega)
      have hQ1 : P * x ≤ P * x * prodL r := by have := Int.mul_le_mul_of_nonneg_left hr1 (show 0 ≤ P * x by omega); omega
      have hbd : P * x * prodL r * (P * x * prodL r) ≤ 1000000000000000000 := by
        have hnn : 0 ≤ P * x * prodL r * (P * x * prodL r) := Int.mul_nonneg (by omega) (by omega)
        have := Int.mul_le_mul_of_nonneg_right hs hnn
        omega
      have hPP := @two_sub (P * x)
      have hPQ : P * x * (P * x) ≤ P * x * prodL r * (P * x * prodL r) := sq_le (by omega) hQ1
      have hpa : part * x ≤ (2 * P - 1) * x := Int.mul_le_mul_of_nonneg_right h2 (by omega)
      rw [Int.sub_mul, Int.mul_assoc] at hpa
      have hpa0 : P * x ≤ part * x := Int.mul_le_mul_of_nonneg_right h1 (by omega)
      have hw1 : wrap64 (wrap64 (part * x) + 1) = part * x + 1 := by rw [w64 (n := part * x) (by omega) (by omega), w64 (by omega) (by omega)]
      have hw2 : wrap64 (P * x) = P * x := w64 (by omega) (by omega)
      have hI : (part * x + 1) * x + 1 = part * x + 1 + P * x * x := by
        have h4 : (part * x + 1) * x = (part + P * x) * x := by rw [h3]
        rw [h4, Int.add_mul]; omega
      have hw3 : wrap64 (part + P * x) = part * x + 1 := by rw [← h3]; exact w64 (by omega) (by omega)
      obtain ⟨T, c', e1, e2, b1, b2, b3⟩ := ih (i + 1) hdr (Int.ofNat_lt.1 hin) hxr s c (part * x + 1) (P * x) x (wrap64 (j + 1)) hp (by omega) (by omega) (by omega) hI hs hb
      refine ⟨T, c', ?_, ?_, b1, b2, fun _ => b3 (by omega)⟩
      · refine Ev.step (fun k => by rw [impl_divisors.l1]) (Ev.pos hlen (Ev.pos hlen (Ev.pos hrd (Ev.pos hlen1 ?_))))
        rw [hw1]; exact e1
      · refine Ev.step (fun k => by rw [spec_dvSums.l1]) (Ev.pos hin (Ev.pos (Int.natCast_nonneg i) (Ev.pos hget ?_)))
        rw [hw2, hw3, hwi]; exact e2
    · have hPP := @two_sub P
      have hpd : 1 * 1 ≤ x * prodL r := Int.mul_le_mul (by omega) hr1 (by omega) (by omega)
      have hR2 : 1 * 1 ≤ x * prodL r * (x * prodL r) := Int.mul_le_mul (by omega) (by omega) (by omega) (by omega)
      have hPart : part * (x * prodL r * (x * prodL r)) ≤ P * P * (x * prodL r * (x * prodL r)) := Int.mul_le_mul_of_nonneg_right (by omega) (by omega)
      have hre : P * P * (x * prodL r * (x * prodL r)) = P * (x * prodL r) * (P * (x * prodL r)) := by simp only [Int.mul_assoc, Int.mul_left_comm]
      have hs2 : s * part * (x * prodL r * (x * prodL r)) ≤ 1000000000000000000 := by
        have := Int.mul_le_mul_of_nonneg_left hPart (show 0 ≤ s by omega)
        rw [hre] at this
        rw [Int.mul_assoc]; omega
      have hsp0 : 1 * 1 ≤ s * part := Int.mul_le_mul hs (by omega) (by omega) (by omega)
      have hsp : s * part ≤ s * part * (x * prodL r * (x * prodL r)) := by have := Int.mul_le_mul_of_nonneg_left hR2 (show 0 ≤ s * part by omega); omega
      have hw : wrap64 (s * part) = s * part := w64 (by omega) (by omega)
      have hx3 : x ≤ x * prodL r := by have := Int.mul_le_mul_of_nonneg_left hr1 (show 0 ≤ x by omega); omega
      have hx4 : x * prodL r ≤ x * prodL r * (x * prodL r) := by have := Int.mul_le_mul_of_nonneg_left (show 1 ≤ x * prodL r by omega) (show 0 ≤ x * prodL r by omega); omega
      have hb1 : x * prodL r * (x * prodL r) ≤ 1000000000000000000 := by have := Int.mul_le_mul_of_nonneg_right (show 1 ≤ s * part by omega) (show 0 ≤ x * prodL r * (x * prodL r) by omega); omega
      have hw1 : wrap64 (wrap64 (1 * x) + 1) = x + 1 := by rw [Int.one_mul, w64 (n := x) (by omega) (by omega), w64 (by omega) (by omega)]
      have hw2 : wrap64 (1 * x) = x := by rw [Int.one_mul]; exact w64 (by omega) (by omega)
      have hw3 : wrap64 (1 + x) = x + 1 := by rw [w64 (by omega) (by omega)]; omega
      obtain ⟨T, c', e1, e2, b1, b2, b3⟩ := ih (i + 1) hdr (Int.ofNat_lt.1 hin) hxr (s * part) (wrap64 (c * wrap64 (j + 1))) (x + 1) x x (wrap64 (0 + 1)) hx2 (by omega) (by omega) (by omega) (by rw [Int.add_mul]; omega) (by omega) hs2
      have b3' := b3 (by omega)
      have hT1 : P * (x * prodL r + 1) ≤ part * T := Int.mul_le_mul h1 b3' (by omega) (by omega)
      rw [Int.mul_add] at hT1
      have hT2 : part * T ≤ part * (x * prodL r * (x * prodL r)) := Int.mul_le_mul_of_nonneg_left b2 (by omega)
      refine ⟨part * T, c', ?_, ?_, by omega, by omega, fun _ => by omega⟩
      · refine Ev.step (fun k => by rw [impl_divisors.l1]) (Ev.pos hlen (Ev.pos hlen (Ev.neg (by rw [hrd]; exact hxp) ?_)))
        refine Ev.step (fun k => by rw [impl_divisors.l0]) (Ev.pos hlen (Ev.pos hlen ?_))
        rw [hw, hrd]
        refine Ev.step (fun k => by rw [impl_divisors.l1]) (Ev.pos hlen (Ev.pos hlen (Ev.pos hrd (Ev.pos hlen1 ?_))))
        rw [hw1, ← Int.mul_assoc]; exact e1
      · refine Ev.step (fun k => by rw [spec_dvSums.l1]) (Ev.pos hin (Ev.pos (Int.natCast_nonneg i) (Ev.neg (by rw [hget]; exact hxp) ?_)))
        refine Ev.step (fun k => by rw [spec_dvSums.l0]) (Ev.pos hin (Ev.pos (Int.natCast_nonneg i) ?_))
        rw [hw, hget]
        refine Ev.step (fun k => by rw [spec_dvSums.l1]) (Ev.pos hin (Ev.pos (Int.natCast_nonneg i) (Ev.pos hget ?_)))
        rw [hw2, hw3, hwi, ← Int.mul_assoc]; exact e2

theorem sums_all (n : Int) (h1 : 1 ≤ n) (h2 : n ≤ 1000000000) : ∃ S c, Ev (fun k => spec_dvSums.f k n) (S, c) ∧ Ev (fun k => impl_divisors.f k n) (S, c) ∧ n ≤ S ∧ S ≤ n * n ∧ (n = 1 → S = 1) ∧ (2 ≤ n → n + 1 ≤ S) := by
  obtain ⟨fs, e1, e2, hp, hx, hl⟩ := factors_all n h1 h2
  have hn2 : n * n ≤ 1000000000 * 1000000000 := sq_le (by omega) h2
  cases fs with
  | nil =>
    simp only [prodL] at hp
    subst hp
    refine ⟨1, 1, ?_, ?_, by omega, by omega, fun _ => rfl, fun h => by omega⟩
    · exact Ev.bind e1 (Ev.step (fun k => by rw [spec_dvSums.l0]) (Ev.neg (by simp) (Ev.now _)))
    · exact Ev.bind e2 (Ev.step (fun k => by rw [impl_divisors.l0]) (Ev.neg (by simp) (Ev.now _)))
  | cons x r =>
    have hlen : (0 : Int) < ((x :: r).length : Int) := Int.ofNat_lt.2 (Nat.succ_pos _)
    have hlen1 : (1 : Int) ≤ ((x :: r).length : Int) := Int.ofNat_le.2 (Nat.succ_pos _)
    have hrd : rd (x :: r) 0 = x := rfl
    have hx2 := hx x List.mem_cons_self
    have hxr : ∀ y ∈ r, 2 ≤ y := fun y hy => hx y (List.mem_cons_of_mem _ hy)
    have hr1 := prodL_pos r hxr
    simp only [prodL] at hp
    have hxn : x ≤ n := by have := Int.mul_le_mul_of_nonneg_left hr1 (show 0 ≤ x by omega); omega
    have hn0 : n ≤ n * n := by have := Int.mul_le_mul_of_nonneg_left h1 (show 0 ≤ n by omega); omega
    have hw1 : wrap64 (wrap64 (1 * x) + 1) = x + 1 := by rw [Int.one_mul, w64 (n := x) (by omega) (by omega), w64 (by omega) (by omega)]
    have hw2 : wrap64 (1 * x) = x := by rw [Int.one_mul]; exact w64 (by omega) (by omega)
    have hw3 : wrap64 (1 + x) = x + 1 := by rw [w64 (by omega) (by omega)]; omega
    have hw4 : wrap64 ((0 : Int) + 1) = ((0 + 1 : Nat) : Int) := w64 (by decide) (by decide)
    have hI : (x + 1) * x + 1 = x + 1 + x * x := by rw [Int.add_mul]; omega
    obtain ⟨T, c', e3, e4, b1, b2, b3⟩ := sums_ev (x :: r) hl r (0 + 1) rfl (Nat.succ_pos _) hxr 1 1 (x + 1) x x (wrap64 (0 + 1)) hx2 (by omega) (by omega) (by omega) hI (by omega) (by rw [hp]; omega)
    rw [hp] at b1 b2 b3
    rw [Int.one_mul] at e3 e4
    have b4 := b3 (by omega)
    refine ⟨T, c', ?_, ?_, by omega, b2, fun h => by omega, fun _ => b4⟩
    · refine Ev.bind e1 (Ev.step (fun k => by rw [spec_dvSums.l0]) (Ev.pos hlen (Ev.pos (Int.le_refl 0) ?_)))
      rw [hrd]
      refine Ev.step (fun k => by rw [spec_dvSums.l1]) (Ev.pos hlen (Ev.pos (Int.le_refl 0) (Ev.pos hrd ?_)))
      rw [hw2, hw3]
      rw [← hw4] at e4; exact e4
    · refine Ev.bind e2 (Ev.step (fun k => by rw [impl_divisors.l0]) (Ev.pos hlen (Ev.pos hlen ?_)))
      rw [hrd]
      refine Ev.step (fun k => by rw [impl_divisors.l1]) (Ev.pos hlen (Ev.pos hlen (Ev.pos hrd (Ev.pos hlen1 ?_))))
      rw [hw1]; exact e3
/-- The proper sum. -/
theorem proper_all (n : Int) (h1 : 1 ≤ n) (h2 : n ≤ 1000000000) : ∃ s, Ev (fun k => spec_dvProper.f k n) s ∧ Ev (fun k => impl_proper.f k n) s ∧ 0 ≤ s ∧ s ≤ 1000000000000000000 ∧ (n = 1 → s = 0) ∧ (2 ≤ n → 1 ≤ s) := by
  obtain ⟨S, c, e1, e2, b0, b1, b2, b3⟩ := sums_all n h1 h2
  have hn2 : n * n ≤ 1000000000 * 1000000000 := sq_le (by omega) h2
  have hw : wrap64 (S - n) = S - n := w64 (by omega) (by omega)
  refine ⟨S - n, ?_, ?_, by omega, by omega, fun h => by have := b2 h; omega, fun h => by have := b3 h; omega⟩
  · exact Ev.bind e1 (Ev.some hw)
  · exact Ev.bind e2 (Ev.some hw)
open Classical in
noncomputable def pr (n : Int) : Int := if h : 1 ≤ n ∧ n ≤ 1000000000 then Classical.choose (proper_all n h.1 h.2) else 0
theorem pr_ev (n : Int) (h1 : 1 ≤ n) (h2 : n ≤ 1000000000) : Ev (fun k => spec_dvProper.f k n) (pr n) ∧ Ev (fun k => impl_proper.f k n) (pr n) ∧ 0 ≤ pr n ∧ pr n ≤ 1000000000000000000 ∧ (n = 1 → pr n = 0) ∧ (2 ≤ n → 1 ≤ pr n) := by
  unfold pr
  rw [dif_pos ⟨h1, h2⟩]
  exact Classical.choose_spec (proper_all n h1 h2)

/-! ### first places in lists -/
theorem rd_get {xs : List Int} {i : Nat} (h : i < xs.length) : rd xs (i : Int) = xs[i] := by
  simp [rd, List.getD_eq_getElem?_getD, List.getElem?_eq_getElem h]
/-- The first place of s, or -1. -/
def ix (l : List Int) (s : Int) : Int := match l.findIdx? (fun x => x == s) with | some i => (i : Int) | none => -1
theorem ix_some {l : List Int} {s : Int} {i : Nat} (h : i < l.length) (he : l[i] = s) (hn : ∀ x ∈ l.take i, x ≠ s) : ix l s = i := by
  unfold ix
  rw [List.findIdx?_eq_some_iff_getElem.2 ⟨h, by simpa using he, fun j hj => ?_⟩]
  have := hn (l[j]'(by omega)) (List.mem_take_iff_getElem.2 ⟨j, by omega, rfl⟩)
  simpa using this
theorem ix_none {l : List Int} {s : Int} (hn : ∀ x ∈ l, x ≠ s) : ix l s = -1 := by
  unfold ix
  rw [List.findIdx?_eq_none_iff.2 (fun x hx => by simpa using hn x hx)]
theorem ix_mem {l : List Int} {s : Int} (h : s ∈ l) : ∃ i : Nat, ix l s = i ∧ ∃ hl : i < l.length, l[i] = s ∧ ∀ j (hj : j < i), l[j]'(by omega) ≠ s := by
  unfold ix
  cases hf : l.findIdx? (fun x => x == s) with
  | none =>
    have := List.findIdx?_eq_none_iff.1 hf s h
    simp at this
  | some i =>
    obtain ⟨hl, he, hn⟩ := List.findIdx?_eq_some_iff_getElem.1 hf
    exact ⟨i, rfl, hl, by simpa using he, fun j hj => by simpa using hn j hj⟩
theorem take_ne_succ {l : List Int} {s : Int} {i : Nat} (h : i < l.length) (hne : ¬ l[i] = s) (hn : ∀ x ∈ l.take i, x ≠ s) : ∀ x ∈ l.take (i + 1), x ≠ s := by
  intro x hx
  rw [List.take_succ_eq_append_getElem h, List.mem_append] at hx
  rcases hx with hx | hx
  · exact hn x hx
  · simp at hx; rw [hx]; exact hne

theorem dvAt_ev (l : List Int) (s : Int) (hl : (l.length : Int) ≤ 4611686018427387904) : Ev (fun k => spec_dvAt.f k l s) (ix l s) := by
  have key : ∀ (d i : Nat), l.length = i + d → (∀ x ∈ l.take i, x ≠ s) → Ev (fun k => spec_dvAt.l0 k s l (l.length : Int) (i : Int)) (ix l s) := by
    intro d
    induction d with
    | zero =>
      intro i h hn
      refine Ev.step (fun k => by rw [spec_dvAt.l0]) (Ev.neg (by omega) (Ev.some (ix_none (fun x hx => hn x (by rw [List.take_of_length_le (by omega)]; exact hx))).symm))
    | succ d ih =>
      intro i h hn
      have hlt : i < l.length := by omega
      have hlt2 : (i : Int) < (l.length : Int) := by omega
      have hw : wrap64 ((i : Int) + 1) = ((i + 1 : Nat) : Int) := by rw [w64 (by omega) (by omega)]; rfl
      by_cases c : l[i] = s
      · exact Ev.step (fun k => by rw [spec_dvAt.l0]) (Ev.pos hlt2 (Ev.pos (Int.natCast_nonneg i) (Ev.pos hlt2 (Ev.pos (by rw [rd_get hlt]; exact c) (Ev.some (ix_some hlt c hn).symm)))))
      · refine Ev.step (fun k => by rw [spec_dvAt.l0]) (Ev.pos hlt2 (Ev.pos (Int.natCast_nonneg i) (Ev.pos hlt2 (Ev.neg (by rw [rd_get hlt]; exact c) ?_))))
        rw [hw]; exact ih (i + 1) (by omega) (take_ne_succ hlt c hn)
  exact key l.length 0 (by omega) (by simp)
theorem has_ev (l : List Int) (s : Int) (hl : (l.length : Int) ≤ 4611686018427387904) : Ev (fun k => spec_l1Has.f k l s) (decide (s ∈ l)) := by
  have key : ∀ (d i : Nat), l.length = i + d → (∀ x ∈ l.take i, x ≠ s) → Ev (fun k => spec_l1Has.l0 k s l (l.length : Int) (i : Int)) (decide (s ∈ l)) := by
    intro d
    induction d with
    | zero =>
      intro i h hn
      refine Ev.step (fun k => by rw [spec_l1Has.l0]) (Ev.neg (by omega) (Ev.some (decide_eq_false (fun hm => hn s (by rw [List.take_of_length_le (by omega)]; exact hm) rfl)).symm))
    | succ d ih =>
      intro i h hn
      have hlt : i < l.length := by omega
      have hlt2 : (i : Int) < (l.length : Int) := by omega
      have hw : wrap64 ((i : Int) + 1) = ((i + 1 : Nat) : Int) := by rw [w64 (by omega) (by omega)]; rfl
      by_cases c : l[i] = s
      · exact Ev.step (fun k => by rw [spec_l1Has.l0]) (Ev.pos hlt2 (Ev.pos (Int.natCast_nonneg i) (Ev.pos hlt2 (Ev.pos (by rw [rd_get hlt]; exact c) (Ev.some (decide_eq_true (c ▸ List.getElem_mem hlt)).symm)))))
      · refine Ev.step (fun k => by rw [spec_l1Has.l0]) (Ev.pos hlt2 (Ev.pos (Int.natCast_nonneg i) (Ev.pos hlt2 (Ev.neg (by rw [rd_get hlt]; exact c) ?_))))
        rw [hw]; exact ih (i + 1) (by omega) (take_ne_succ hlt c hn)
  exact key l.length 0 (by omega) (by simp)

theorem index_ev (l : List Int) (s : Int) (hl : (l.length : Int) ≤ 4611686018427387904) : Ev (fun k => slices_Index_int_int.f k l s) (ix l s) := by
  have key : ∀ (d i : Nat), l.length = i + d → (∀ x ∈ l.take i, x ≠ s) → Ev (fun k => slices_Index_int_int.l0 k l s (l.length : Int) (i : Int)) (ix l s) := by
    intro d
    induction d with
    | zero =>
      intro i h hn
      refine Ev.step (fun k => by rw [slices_Index_int_int.l0]) (Ev.neg (by omega) (Ev.some (ix_none (fun x hx => hn x (by rw [List.take_of_length_le (by omega)]; exact hx))).symm))
    | succ d ih =>
      intro i h hn
      have hlt : i < l.length := by omega
      have hlt2 : (i : Int) < (l.length : Int) := by omega
      have hw : wrap64 ((i : Int) + 1) = ((i + 1 : Nat) : Int) := by rw [w64 (by omega) (by omega)]; rfl
      by_cases c : l[i] = s
      · exact Ev.step (fun k => by rw [slices_Index_int_int.l0]) (Ev.pos hlt2 (Ev.pos (Int.natCast_nonneg i) (Ev.pos hlt2 (Ev.pos (by rw [rd_get hlt]; exact c.symm) (Ev.some (ix_some hlt c hn).symm)))))
      · refine Ev.step (fun k => by rw [slices_Index_int_int.l0]) (Ev.pos hlt2 (Ev.pos (Int.natCast_nonneg i) (Ev.pos hlt2 (Ev.neg (by rw [rd_get hlt]; exact fun h => c h.symm) ?_))))
        rw [hw]; exact ih (i + 1) (by omega) (take_ne_succ hlt c hn)
  exact key l.length 0 (by omega) (by simp)
theorem ix_range {l : List Int} {s : Int} : ix l s = -1 ∧ s ∉ l ∨ 0 ≤ ix l s ∧ ix l s < l.length ∧ s ∈ l := by
  by_cases h : s ∈ l
  · obtain ⟨i, e, hl, _⟩ := ix_mem h
    rw [e]; exact .inr ⟨by omega, by omega, h⟩
  · exact .inl ⟨ix_none (fun x hx he => h (he ▸ hx)), h⟩
theorem contains_ev (l : List Int) (s : Int) (hl : (l.length : Int) ≤ 4611686018427387904) : Ev (fun k => slices_Contains_int_int.f k l s) (decide (s ∈ l)) := by
  refine Ev.bind (index_ev l s hl) (Ev.some ?_)
  rcases @ix_range l s with ⟨h1, h2⟩ | ⟨h1, h2, h3⟩
  · rw [h1, decide_eq_false h2]; decide
  · rw [decide_eq_true h3, decide_eq_true h1]

/-! ### proper runs -/
theorem in_f (a b c : Int) : impl_in.f a b c = spec_l1In.f a b c := rfl
theorem l1In_f (a b c : Int) : spec_l1In.f a b c = some (decide (b ≤ a ∧ a ≤ c)) := by
  unfold spec_l1In.f
  by_cases h : b ≤ a
  · rw [if_pos h]; simp [h]
  · rw [if_neg h]; simp [h]
theorem num_f (n : Int) : spec_dvNumber.f n = some (decide (1 ≤ n ∧ n ≤ 1000000000)) := by unfold spec_dvNumber.f; rw [l1In_f]; rfl
theorem div_f (n : Int) : impl_isDivided.f n = some (decide (1 ≤ n ∧ n ≤ 1000000000)) := by unfold impl_isDivided.f; rw [in_f, l1In_f]; rfl
theorem terms_f (n : Int) : spec_dvTerms.f n = some (decide (1 ≤ n ∧ n ≤ 60)) := by unfold spec_dvTerms.f; rw [l1In_f]; rfl
theorem last_f (l : List Int) (h : l ≠ []) (hl : (l.length : Int) ≤ 1000) : impl_lastOf.f l = some (l.getLast h) := by
  have hp : 0 < l.length := List.length_pos_iff.2 h
  have hw : wrap64 ((l.length : Int) - 1) = ((l.length - 1 : Nat) : Int) := by rw [w64 (by omega) (by omega)]; omega
  unfold impl_lastOf.f
  rw [hw, if_pos (Int.natCast_nonneg _), if_pos (by omega), rd_get (by omega), List.getLast_eq_getElem]
/-- What both texts' runs come to. -/
structure Run (n most : Int) (out : List Int) (s : Int) : Prop where
  ne : out ≠ []
  first : out[0]? = some n
  len : (out.length : Int) ≤ most
  good : ∀ x ∈ out, 1 ≤ x ∧ x ≤ 1000000000
  last : s = pr (out.getLast ne)
  chain : ∀ i (h : i + 1 < out.length), out[i + 1] = pr (out[i]'(by omega))
  nodup : out.Nodup
theorem Run.next {n most : Int} {out : List Int} {s : Int} (R : Run n most out s) (h1 : (out.length : Int) < most) (h2 : 1 ≤ s ∧ s ≤ 1000000000) (h3 : s ∉ out) : Run n most (out ++ [s]) (pr s) where
  ne := by simp
  first := by rw [List.getElem?_append_left (List.length_pos_iff.2 R.ne)]; exact R.first
  len := by simp only [List.length_append, List.length_cons, List.length_nil]; omega
  good := fun x hx => by
    rcases List.mem_append.1 hx with hx | hx
    · exact R.good x hx
    · simp at hx; rw [hx]; exact h2
  last := by simp
  chain := fun i h => by
    simp only [List.length_append, List.length_cons, List.length_nil] at h
    by_cases c : i + 1 < out.length
    · rw [List.getElem_append_left c, List.getElem_append_left (by omega)]; exact R.chain i c
    · have hi : i + 1 = out.length := by omega
      rw [List.getElem_append_right (by omega), List.getElem_append_left (by omega)]
      simp only [hi, Nat.sub_self, List.getElem_cons_zero]
      rw [R.last, List.getLast_eq_getElem]
      congr 1
      congr 1
      omega
  nodup := by
    rw [List.nodup_append]
    exact ⟨R.nodup, by simp, fun a ha b hb => by simp at hb; rw [hb]; exact fun he => h3 (he ▸ ha)⟩
theorem run_ev (n most : Int) (hm : most ≤ 60) (d : Nat) : ∀ (out : List Int) (s : Int), Run n most out s → most - out.length ≤ d →
    ∃ o t, Run n most o t ∧ Ev (fun k => spec_dvRun.l0 k most out s) (o, t) ∧ Ev (fun k => impl_properRun.l0 k most out) (o, t) ∧ ((o.length : Int) = most ∨ ¬ (1 ≤ t ∧ t ≤ 1000000000) ∨ t ∈ o) := by
  induction d with
  | zero =>
    intro out s R hd
    have hl := R.len
    have hlm : (out.length : Int) = most := by omega
    have hg := R.good _ (List.getLast_mem R.ne)
    obtain ⟨_, e2, _⟩ := pr_ev _ hg.1 hg.2
    refine ⟨out, s, R, Ev.step (fun k => by rw [spec_dvRun.l0]) (Ev.neg (by omega) (Ev.now _)), ?_, .inl hlm⟩
    refine Ev.step (fun k => by rw [impl_properRun.l0]) (Ev.pure_bind (last_f out R.ne (by omega)) (Ev.bind e2 (Ev.pos hlm (Ev.some (congrArg (Prod.mk out) R.last.symm)))))
  | succ d ih =>
    intro out s R hd
    have hl := R.len
    have hg := R.good _ (List.getLast_mem R.ne)
    obtain ⟨_, e2, _⟩ := pr_ev _ hg.1 hg.2
    rw [← R.last] at e2
    have hll : (out.length : Int) ≤ 4611686018427387904 := by omega
    by_cases c : (out.length : Int) = most
    · exact ⟨out, s, R, Ev.step (fun k => by rw [spec_dvRun.l0]) (Ev.neg (by omega) (Ev.now _)), Ev.step (fun k => by rw [impl_properRun.l0]) (Ev.pure_bind (last_f out R.ne (by omega)) (Ev.bind e2 (Ev.pos c (Ev.now _)))), .inl c⟩
    · have hlt : (out.length : Int) < most := by omega
      by_cases c1 : 1 ≤ s ∧ s ≤ 1000000000
      · have d1 : decide (1 ≤ s ∧ s ≤ 1000000000) = true := decide_eq_true c1
        by_cases c2 : s ∈ out
        · have d2 : decide (s ∈ out) = true := decide_eq_true c2
          exact ⟨out, s, R, Ev.step (fun k => by rw [spec_dvRun.l0]) (Ev.pos hlt (Ev.pure_bind (num_f s) (Ev.pos d1 (Ev.bind (has_ev out s hll) (Ev.pos d2 (Ev.now _)))))), Ev.step (fun k => by rw [impl_properRun.l0]) (Ev.pure_bind (last_f out R.ne (by omega)) (Ev.bind e2 (Ev.neg c (Ev.pure_bind (div_f s) (Ev.pos d1 (Ev.bind (contains_ev out s hll) (Ev.pos d2 (Ev.now _)))))))), .inr (.inr c2)⟩
        · have d2 : ¬ decide (s ∈ out) = true := by simpa using c2
          obtain ⟨o, t, R2, e3, e4, hx⟩ := ih (out ++ [s]) (pr s) (R.next hlt c1 c2) (by simp only [List.length_append, List.length_cons, List.length_nil]; omega)
          obtain ⟨e5, _, _⟩ := pr_ev s c1.1 c1.2
          have hlim : out.length < 17592186044416 := by omega
          exact ⟨o, t, R2, Ev.step (fun k => by rw [spec_dvRun.l0]) (Ev.pos hlt (Ev.pure_bind (num_f s) (Ev.pos d1 (Ev.bind (has_ev out s hll) (Ev.neg d2 (Ev.pos hlim (Ev.bind e5 e3))))))), Ev.step (fun k => by rw [impl_properRun.l0]) (Ev.pure_bind (last_f out R.ne (by omega)) (Ev.bind e2 (Ev.neg c (Ev.pure_bind (div_f s) (Ev.pos d1 (Ev.bind (contains_ev out s hll) (Ev.neg d2 (Ev.pos hlim e4)))))))), hx⟩
      · have d1 : ¬ decide (1 ≤ s ∧ s ≤ 1000000000) = true := by simpa using c1
        exact ⟨out, s, R, Ev.step (fun k => by rw [spec_dvRun.l0]) (Ev.pos hlt (Ev.pure_bind (num_f s) (Ev.neg d1 (Ev.now _)))), Ev.step (fun k => by rw [impl_properRun.l0]) (Ev.pure_bind (last_f out R.ne (by omega)) (Ev.bind e2 (Ev.neg c (Ev.pure_bind (div_f s) (Ev.neg d1 (Ev.now _)))))), .inr (.inl c1)⟩
theorem run_all (n most : Int) (h1 : 1 ≤ n ∧ n ≤ 1000000000) (hm : 1 ≤ most ∧ most ≤ 60) :
    ∃ o t, Run n most o t ∧ Ev (fun k => spec_dvRun.f k n most) (o, t) ∧ Ev (fun k => impl_properRun.f k n most) (o, t) ∧ ((o.length : Int) = most ∨ ¬ (1 ≤ t ∧ t ≤ 1000000000) ∨ t ∈ o) := by
  have R : Run n most [n] (pr n) := ⟨by simp, rfl, by simpa using hm.1, fun x hx => by simp at hx; rw [hx]; exact h1, rfl, fun i h => by simp at h, by simp⟩
  obtain ⟨o, t, R2, e1, e2, hx⟩ := run_ev n most hm.2 60 [n] (pr n) R (by simp; omega)
  obtain ⟨e3, _⟩ := pr_ev n h1.1 h1.2
  exact ⟨o, t, R2, Ev.bind e3 e1, e2, hx⟩

/-! ### the least one, and a list from its first place on -/
theorem mn_le (a b : Int) : mn a b ≤ a ∧ mn a b ≤ b ∧ (mn a b = a ∨ mn a b = b) := by unfold mn; split <;> omega
theorem min_ev (l : List Int) (hp : 0 < l.length) (hl : (l.length : Int) ≤ 4611686018427387904) : ∃ m, Ev (fun k => slices_Min_int_int.f k l) m ∧ m ∈ l ∧ ∀ x ∈ l, m ≤ x := by
  have key : ∀ (d i : Nat) (m : Int), l.length = i + d → m ∈ l → (∀ x ∈ l.take i, m ≤ x) → ∃ m', Ev (fun k => slices_Min_int_int.l0 k l m (i : Int)) m' ∧ m' ∈ l ∧ ∀ x ∈ l, m' ≤ x := by
    intro d
    induction d with
    | zero =>
      intro i m h hm hn
      exact ⟨m, Ev.step (fun k => by rw [slices_Min_int_int.l0]) (Ev.neg (by omega) (Ev.now _)), hm, fun x hx => hn x (by rw [List.take_of_length_le (by omega)]; exact hx)⟩
    | succ d ih =>
      intro i m h hm hn
      have hlt : i < l.length := by omega
      have hw : wrap64 ((i : Int) + 1) = ((i + 1 : Nat) : Int) := by rw [w64 (by omega) (by omega)]; rfl
      have h3 := mn_le m l[i]
      obtain ⟨m', e, r⟩ := ih (i + 1) (mn m l[i]) (by omega) (by rcases h3.2.2 with h | h <;> rw [h]; exact hm; exact List.getElem_mem hlt) (fun x hx => by
        rw [List.take_succ_eq_append_getElem hlt, List.mem_append] at hx
        rcases hx with hx | hx
        · have := hn x hx; omega
        · simp at hx; rw [hx]; omega)
      exact ⟨m', Ev.step (fun k => by rw [slices_Min_int_int.l0]) (Ev.pos (by omega) (Ev.pos (Int.natCast_nonneg i) (by rw [hw, rd_get hlt]; exact e))), r⟩
  obtain ⟨m, e, r⟩ := key (l.length - 1) 1 l[0] (by omega) (List.getElem_mem hp) (fun x hx => by
    rw [List.take_succ_eq_append_getElem hp] at hx; simp at hx; rw [hx]; omega)
  have h0 : rd l 0 = l[0] := rd_get (i := 0) hp
  exact ⟨m, Ev.neg (by omega) (Ev.pos (by omega) (by rw [h0]; exact e)), r⟩
/-- From its first least number on. -/
structure Turned (l r : List Int) : Prop where
  at_ : ∃ i m, i < l.length ∧ l[i]? = some m ∧ (∀ x ∈ l, m ≤ x) ∧ (∀ x ∈ l.take i, m < x) ∧ r = l.drop i ++ l.take i
theorem leastFirst_ev (l : List Int) (hp : 0 < l.length) (hl : (l.length : Int) ≤ 1000000) : ∃ r, Ev (fun k => impl_leastFirst.f k l) r ∧ Turned l r := by
  obtain ⟨m, e1, hm, hle⟩ := min_ev l hp (by omega)
  obtain ⟨i, ei, hil, he, hn⟩ := ix_mem hm
  have e2 := index_ev l m (by omega)
  rw [ei] at e2
  have hf : slices_Concat_int_int.f [l.drop (i : Int).toNat, l.take (i : Int).toNat] = some (l.drop i ++ l.take i) := by
    unfold slices_Concat_int_int.f
    rw [if_pos]
    · simp
    · simp only [List.flatten_cons, List.flatten_nil, List.append_nil, List.length_append, List.length_drop, List.length_take]; omega
  refine ⟨l.drop i ++ l.take i, Ev.bind e1 (Ev.bind e2 (Ev.pos (Int.natCast_nonneg i) (Ev.pos (by omega) (Ev.pure_bind hf (Ev.now _))))), ⟨i, m, hil, by rw [List.getElem?_eq_getElem hil, he], hle, fun x hx => ?_, rfl⟩⟩
  obtain ⟨j, hj, hx⟩ := List.mem_take_iff_getElem.1 hx
  have h1 := hle x (hx ▸ List.getElem_mem (by omega))
  have h2 := hn j (by omega)
  rw [hx] at h2
  omega
theorem Turned.same {l r s : List Int} (h : Turned l r) (k : Turned l s) : r = s := by
  obtain ⟨i, m, hi, hm, h1, h2, rfl⟩ := h
  obtain ⟨j, q, hj, hq, k1, k2, rfl⟩ := k
  have hij : i = j := by
    rcases Nat.lt_trichotomy i j with c | c | c
    · have a := k2 m (List.mem_take_iff_getElem.2 ⟨i, by omega, by rw [List.getElem?_eq_getElem hi] at hm; exact Option.some.inj hm⟩)
      have b := h1 q (by rw [List.getElem?_eq_getElem hj] at hq; exact Option.some.inj hq ▸ List.getElem_mem hj)
      omega
    · exact c
    · have a := h2 q (List.mem_take_iff_getElem.2 ⟨j, by omega, by rw [List.getElem?_eq_getElem hj] at hq; exact Option.some.inj hq⟩)
      have b := k1 m (by rw [List.getElem?_eq_getElem hi] at hm; exact Option.some.inj hm ▸ List.getElem_mem hi)
      omega
  rw [hij]

/-! ### how runs end -/
/-- End and circle (as it stands in the run), out of the run. -/
noncomputable def endOf (o : List Int) (t : Int) : Int × List Int :=
  if t = 0 then (0, []) else if t > 1000000000 then (4, []) else if ix o t < 0 then (5, []) else (mn ((o.length : Int) - ix o t) 3, o.drop (ix o t).toNat)
theorem least_f (a b : Int) : spec_l1Least.f a b = some (mn a b) := by
  unfold spec_l1Least.f mn
  by_cases c : a < b
  · rw [if_pos c, if_neg (by omega)]
  · rw [if_neg c]
    by_cases d : b < a
    · rw [if_pos d]
    · rw [if_neg d, show a = b by omega]
theorem Run.t0 {n most : Int} {o : List Int} {t : Int} (R : Run n most o t) : 0 ≤ t ∧ t ≤ 1000000000000000000 ∧ (o.getLast R.ne = 1 ↔ t = 0) := by
  have hg := R.good _ (List.getLast_mem R.ne)
  obtain ⟨_, _, h0, h1, h2, h3⟩ := pr_ev _ hg.1 hg.2
  rw [← R.last] at h0 h1 h2 h3
  refine ⟨h0, h1, h2, fun h => ?_⟩
  by_cases c : 2 ≤ o.getLast R.ne
  · have := h3 c; omega
  · omega
theorem ends_ev (n most : Int) (h1 : 1 ≤ n ∧ n ≤ 1000000000) (hm : 1 ≤ most ∧ most ≤ 60) :
    ∃ o t c, Run n most o t ∧ ((o.length : Int) = most ∨ ¬ (1 ≤ t ∧ t ≤ 1000000000) ∨ t ∈ o) ∧ Ev (fun k => spec_dvEnd.f k n most) (endOf o t) ∧ Ev (fun k => impl_endOf.f k n most) ((endOf o t).1, c) ∧ ((endOf o t).2 = [] ∧ c = [] ∨ Turned (endOf o t).2 c) := by
  obtain ⟨o, t, R, e1, e2, hx⟩ := run_all n most h1 hm
  have hol : (o.length : Int) ≤ 60 := by have := R.len; omega
  have T := R.t0
  have e3 := index_ev o t (by omega)
  have e4 := dvAt_ev o t (by omega)
  have hlast := last_f o R.ne (by omega)
  by_cases c0 : t = 0
  · refine ⟨o, t, [], R, hx, ?_, ?_, .inl ⟨by simp [endOf, c0], rfl⟩⟩
    · exact Ev.bind e1 (Ev.pos c0 (Ev.some (by simp [endOf, c0])))
    · exact Ev.bind e2 (Ev.bind e3 (Ev.pure_bind hlast (Ev.pos (T.2.2.2 c0) (Ev.some (by simp [endOf, c0])))))
  · have c0' : ¬ o.getLast R.ne = 1 := fun h => c0 (T.2.2.1 h)
    by_cases c1 : t > 1000000000
    · have d1 : ¬ decide (1 ≤ t ∧ t ≤ 1000000000) = true := by simp; omega
      refine ⟨o, t, [], R, hx, ?_, ?_, .inl ⟨by simp [endOf, c0, c1], rfl⟩⟩
      · exact Ev.bind e1 (Ev.neg c0 (Ev.pure_bind (num_f t) (Ev.neg d1 (Ev.some (by simp [endOf, c0, c1])))))
      · exact Ev.bind e2 (Ev.bind e3 (Ev.pure_bind hlast (Ev.neg c0' (Ev.pos c1 (Ev.some (by simp [endOf, c0, c1]))))))
    · have d1 : decide (1 ≤ t ∧ t ≤ 1000000000) = true := decide_eq_true (by omega)
      by_cases c2 : ix o t < 0
      · refine ⟨o, t, [], R, hx, ?_, ?_, .inl ⟨by simp [endOf, c0, c1, c2], rfl⟩⟩
        · exact Ev.bind e1 (Ev.neg c0 (Ev.pure_bind (num_f t) (Ev.pos d1 (Ev.bind e4 (Ev.pos c2 (Ev.some (by simp [endOf, c0, c1, c2])))))))
        · exact Ev.bind e2 (Ev.bind e3 (Ev.pure_bind hlast (Ev.neg c0' (Ev.neg c1 (Ev.pos c2 (Ev.some (by simp [endOf, c0, c1, c2])))))))
      · have hr : ix o t < o.length := by rcases @ix_range o t with h | h <;> omega
        have hr0 : 0 ≤ ix o t := by omega
        have hr1 : ix o t ≤ (o.length : Int) := by omega
        have hdl : ((o.drop (ix o t).toNat).length : Int) = (o.length : Int) - ix o t := by rw [List.length_drop]; omega
        obtain ⟨r, e5, hT⟩ := leastFirst_ev (o.drop (ix o t).toNat) (by omega) (by omega)
        have hw : wrap64 ((o.length : Int) - ix o t) = (o.length : Int) - ix o t := w64 (by omega) (by omega)
        refine ⟨o, t, r, R, hx, ?_, ?_, .inr (by simpa [endOf, c0, c1, c2] using hT)⟩
        · refine Ev.bind e1 (Ev.neg c0 (Ev.pure_bind (num_f t) (Ev.pos d1 (Ev.bind e4 (Ev.neg c2 (Ev.pos hr0 (Ev.pos hr1 ?_)))))))
          exact Ev.pure_bind rfl (Ev.pure_bind (least_f _ _) (Ev.some (by rw [hdl]; simp [endOf, c0, c1, c2])))
        · refine Ev.bind e2 (Ev.bind e3 (Ev.pure_bind hlast (Ev.neg c0' (Ev.neg c1 (Ev.neg c2 (Ev.pos hr0 (Ev.pos hr1 (Ev.bind e5 (Ev.some ?_)))))))))
          rw [hw]; simp [endOf, c0, c1, c2]

/-! ### what is marked is held; a list is equal to itself -/
theorem rd_of_get {xs : List Int} {i : Nat} {x : Int} (h : xs[i]? = some x) : rd xs (i : Int) = x := by
  simp [rd, List.getD_eq_getElem?_getD, h]
theorem eqIntS_ev (xs : List Int) (hl : (xs.length : Int) ≤ 4611686018427387904) : Ev (fun k => laws_eqIntS.f k xs xs) true := by
  have key : ∀ (d i : Nat), xs.length = i + d → Ev (fun k => laws_eqIntS.l0 k xs xs (i : Int)) true := by
    intro d
    induction d with
    | zero => intro i h; exact Ev.step (fun k => by rw [laws_eqIntS.l0]) (Ev.neg (by omega) (Ev.now _))
    | succ d ih =>
      intro i h
      have hw : wrap64 ((i : Int) + 1) = ((i + 1 : Nat) : Int) := by rw [w64 (by omega) (by omega)]; rfl
      refine Ev.step (fun k => by rw [laws_eqIntS.l0]) (Ev.pos (by omega) (Ev.pos (by omega) (Ev.pos (by omega) (Ev.pos rfl ?_))))
      rw [hw]; exact ih (i + 1) (by omega)
  exact Ev.pos rfl (key xs.length 0 (by omega))
/-- n marks from m on. -/
def marks (m : Int) : Nat → List Int
  | 0 => []
  | n + 1 => m :: marks (m + 1) n
theorem marks_length : ∀ (n : Nat) (m : Int), (marks m n).length = n
  | 0, _ => rfl
  | n + 1, m => by simp [marks, marks_length n]
theorem marks_get : ∀ (n i : Nat) (m : Int), i < n → (marks m n)[i]? = some (m + i)
  | n + 1, 0, m, _ => by simp [marks]
  | n + 1, i + 1, m, h => by
    rw [marks, List.getElem?_cons_succ, marks_get n i (m + 1) (by omega)]
    congr 1; omega
theorem markIntS_ev (xs : List Int) (m : Int) (hm0 : 0 ≤ m) (hm : m + xs.length ≤ 4611686018427387904) : Ev (fun k => laws_markIntS.f k xs m) (m + xs.length, marks m xs.length) := by
  have key : ∀ (d i : Nat), xs.length = i + d → Ev (fun k => laws_markIntS.l0 k (marks m i ++ xs.drop i) (m + i) (i : Int)) (m + xs.length, marks m xs.length) := by
    intro d
    induction d with
    | zero =>
      intro i h
      have hi : i = xs.length := by omega
      subst hi
      refine Ev.step (fun k => by rw [laws_markIntS.l0]) (Ev.neg (by simp [marks_length]) (Ev.some ?_))
      simp
    | succ d ih =>
      intro i h
      have hw : wrap64 ((i : Int) + 1) = ((i + 1 : Nat) : Int) := by rw [w64 (by omega) (by omega)]; rfl
      have hw2 : wrap64 (m + (i : Int) + 1) = m + ((i + 1 : Nat) : Int) := by rw [w64 (by omega) (by omega)]; omega
      have hlen : (i : Int) < ((marks m i ++ xs.drop i).length : Int) := by rw [List.length_append, marks_length, List.length_drop]; omega
      refine Ev.step (fun k => by rw [laws_markIntS.l0]) (Ev.pos hlen (Ev.pos (by omega) ?_))
      have hs : (marks m i ++ xs.drop i).set (i : Int).toNat (m + i) = marks m (i + 1) ++ xs.drop (i + 1) := by
        apply List.ext_getElem?
        intro j
        rw [List.getElem?_set]
        have hil : i < xs.length := by omega
        simp only [Int.toNat_natCast]
        by_cases hj : i = j
        · subst hj
          rw [if_pos rfl, if_pos (by omega), List.getElem?_append_left (by rw [marks_length]; omega), marks_get _ _ _ (by omega)]
        · rw [if_neg hj]
          by_cases hj2 : j < i
          · rw [List.getElem?_append_left (by rw [marks_length]; omega), List.getElem?_append_left (by rw [marks_length]; omega), marks_get _ _ _ hj2, marks_get _ _ _ (by omega)]
          · rw [List.getElem?_append_right (by rw [marks_length]; omega), List.getElem?_append_right (by rw [marks_length]; omega), marks_length, marks_length, List.getElem?_drop, List.getElem?_drop]
            congr 1; omega
      rw [hs, hw, hw2]; exact ih (i + 1) (by omega)
  have := key xs.length 0 (by omega)
  show Ev (fun k => laws_markIntS.l0 k xs m 0) _
  simpa [marks] using this
theorem heldIntS_ev (m : Int) (n : Nat) (hm0 : 0 ≤ m) (hm : m + n ≤ 4611686018427387904) : Ev (fun k => laws_heldIntS.f k (marks m n) m) (m + n) := by
  have key : ∀ (d i : Nat), n = i + d → Ev (fun k => laws_heldIntS.l0 k (marks m n) (m + i) (i : Int)) (m + n) := by
    intro d
    induction d with
    | zero =>
      intro i h
      have hi : i = n := by omega
      subst hi
      exact Ev.step (fun k => by rw [laws_heldIntS.l0]) (Ev.neg (by rw [marks_length]; omega) (Ev.now _))
    | succ d ih =>
      intro i h
      have hw : wrap64 ((i : Int) + 1) = ((i + 1 : Nat) : Int) := by rw [w64 (by omega) (by omega)]; rfl
      have hw2 : wrap64 (m + (i : Int) + 1) = m + ((i + 1 : Nat) : Int) := by rw [w64 (by omega) (by omega)]; omega
      refine Ev.step (fun k => by rw [laws_heldIntS.l0]) (Ev.pos (by rw [marks_length]; omega) (Ev.pos (by omega) (Ev.pos (rd_of_get (marks_get _ _ _ (by omega))) ?_)))
      rw [hw, hw2]; exact ih (i + 1) (by omega)
  have := key n 0 (by omega)
  show Ev (fun k => laws_heldIntS.l0 k (marks m n) m 0) _
  simpa using this

/-! ### CircleOf -/
theorem own_f (l : List Int) (hl : (l.length : Int) ≤ 1000000) : spec_l1Own.f l = some l := by
  unfold spec_l1Own.f
  simp only [Option.bind_some]
  rw [if_pos (by simp; omega)]
  simp
theorem argmin_ev (c : List Int) (hp : 0 < c.length) (hl : (c.length : Int) ≤ 1000000) : ∃ r, Ev (fun k => spec_CircleOf.l0 k c 0 c (c.length : Int) 0) (r, true) ∧ Turned c r := by
  have key : ∀ (d i j : Nat) (m : Int), c.length = i + d → j < c.length → c[j]? = some m → (∀ x ∈ c.take i, m ≤ x) → (∀ x ∈ c.take j, m < x) → j ≤ i →
      ∃ r, Ev (fun k => spec_CircleOf.l0 k c (j : Int) c (c.length : Int) (i : Int)) (r, true) ∧ Turned c r := by
    intro d
    induction d with
    | zero =>
      intro i j m h hj hm h1 h2 hji
      refine ⟨c.drop j ++ c.take j, ?_, ⟨j, m, hj, hm, fun x hx => h1 x (by rw [List.take_of_length_le (by omega)]; exact hx), h2, rfl⟩⟩
      have hj2 : (j : Int) ≤ (c.length : Int) := by omega
      refine Ev.step (fun k => by rw [spec_CircleOf.l0]) (Ev.neg (by omega) (Ev.pos (Int.natCast_nonneg j) (Ev.pos hj2 ?_)))
      refine Ev.pure_bind (own_f (c.drop (j : Int).toNat) (by rw [List.length_drop]; omega)) (Ev.pure_bind rfl (Ev.pos ?_ (Ev.some rfl)))
      simp only [List.length_drop, List.length_take]; omega
    | succ d ih =>
      intro i j m h hj hm h1 h2 hji
      have hlt : i < c.length := by omega
      have hlt2 : (i : Int) < (c.length : Int) := by omega
      have hj2 : (j : Int) < (c.length : Int) := by omega
      have hw : wrap64 ((i : Int) + 1) = ((i + 1 : Nat) : Int) := by rw [w64 (by omega) (by omega)]; rfl
      have hcj : c[j] = m := by rw [List.getElem?_eq_getElem hj] at hm; exact Option.some.inj hm
      by_cases q : c[i] < m
      · obtain ⟨r, e, T⟩ := ih (i + 1) i c[i] (by omega) hlt (List.getElem?_eq_getElem hlt) (fun x hx => by
          rw [List.take_succ_eq_append_getElem hlt, List.mem_append] at hx
          rcases hx with hx | hx
          · have := h1 x hx; omega
          · simp at hx; rw [hx]; omega) (fun x hx => by have := h1 x hx; omega) (by omega)
        refine ⟨r, Ev.step (fun k => by rw [spec_CircleOf.l0]) (Ev.pos hlt2 (Ev.pos (Int.natCast_nonneg i) (Ev.pos hlt2 (Ev.pos (Int.natCast_nonneg j) (Ev.pos hj2 (Ev.pos (by rw [rd_get hlt, rd_get hj, hcj]; exact q) ?_)))))), T⟩
        rw [hw]; exact e
      · obtain ⟨r, e, T⟩ := ih (i + 1) j m (by omega) hj hm (fun x hx => by
          rw [List.take_succ_eq_append_getElem hlt, List.mem_append] at hx
          rcases hx with hx | hx
          · exact h1 x hx
          · simp at hx; rw [hx]; omega) h2 (by omega)
        refine ⟨r, Ev.step (fun k => by rw [spec_CircleOf.l0]) (Ev.pos hlt2 (Ev.pos (Int.natCast_nonneg i) (Ev.pos hlt2 (Ev.pos (Int.natCast_nonneg j) (Ev.pos hj2 (Ev.neg (by rw [rd_get hlt, rd_get hj, hcj]; exact q) ?_)))))), T⟩
        rw [hw]; exact e
  exact key c.length 0 0 c[0] (by omega) hp (List.getElem?_eq_getElem hp) (by simp) (by simp) (by omega)
/-- Both texts' circles. -/
theorem circle_ev (n most : Int) : ∃ r b, Ev (fun k => spec_CircleOf.f k n most) (r, b) ∧ Ev (fun k => impl_CircleOf.f k n most) (r, b) ∧ (r.length : Int) ≤ 60 := by
  by_cases c1 : 1 ≤ n ∧ n ≤ 1000000000
  · have d1 : decide (1 ≤ n ∧ n ≤ 1000000000) = true := decide_eq_true c1
    by_cases c2 : 1 ≤ most ∧ most ≤ 60
    · have d2 : decide (1 ≤ most ∧ most ≤ 60) = true := decide_eq_true c2
      obtain ⟨o, t, c, R, _, e1, e2, hT⟩ := ends_ev n most c1 c2
      have hol : (o.length : Int) ≤ 60 := by have := R.len; omega
      rcases hT with ⟨h1, h2⟩ | hT
      · have h1' : ((endOf o t).2.length : Int) = 0 := by rw [h1]; rfl
        refine ⟨[], false, ?_, ?_, by simp⟩
        · refine Ev.pure_bind (num_f n) (Ev.pos d1 (Ev.pure_bind (terms_f most) ?_))
          rw [d2]
          exact Ev.step (fun k => by rw [spec_CircleOf.j0]) (Ev.neg (by decide) (Ev.bind e1 (Ev.pos h1' (Ev.now _))))
        · exact Ev.pure_bind (div_f n) (Ev.pos d1 (Ev.pure_bind ((in_f most 1 60).trans (l1In_f most 1 60)) (Ev.pos d2 (Ev.bind e2 (Ev.some (by rw [h2]; rfl))))))
      · have hlen : 0 < (endOf o t).2.length := by obtain ⟨i, m, hi, _⟩ := hT.at_; omega
        have hle : ((endOf o t).2.length : Int) ≤ 60 := by
          unfold endOf; split
          · simp
          · split
            · simp
            · split
              · simp
              · simp only [List.length_drop]; omega
        obtain ⟨r, e3, hT2⟩ := argmin_ev (endOf o t).2 hlen (by omega)
        have hcr := hT.same hT2
        subst hcr
        have hcl : c.length = (endOf o t).2.length := by
          obtain ⟨i, m, hi, _, _, _, hc⟩ := hT.at_
          rw [hc, List.length_append, List.length_drop, List.length_take]; omega
        have hne : ¬ ((endOf o t).2.length : Int) = 0 := by omega
        refine ⟨c, true, ?_, ?_, by omega⟩
        · refine Ev.pure_bind (num_f n) (Ev.pos d1 (Ev.pure_bind (terms_f most) ?_))
          rw [d2]
          exact Ev.step (fun k => by rw [spec_CircleOf.j0]) (Ev.neg (by decide) (Ev.bind e1 (Ev.neg hne e3)))
        · exact Ev.pure_bind (div_f n) (Ev.pos d1 (Ev.pure_bind ((in_f most 1 60).trans (l1In_f most 1 60)) (Ev.pos d2 (Ev.bind e2 (Ev.some (by rw [decide_eq_true (show (0 : Int) < (c.length : Int) by omega)]))))))
    · have d2 : ¬ decide (1 ≤ most ∧ most ≤ 60) = true := by simpa using c2
      refine ⟨[], false, ?_, Ev.pure_bind (div_f n) (Ev.pos d1 (Ev.pure_bind ((in_f most 1 60).trans (l1In_f most 1 60)) (Ev.neg d2 (Ev.now _)))), by simp⟩
      refine Ev.pure_bind (num_f n) (Ev.pos d1 (Ev.pure_bind (terms_f most) ?_))
      rw [show decide (1 ≤ most ∧ most ≤ 60) = false from decide_eq_false c2]
      exact Ev.step (fun k => by rw [spec_CircleOf.j0]) (Ev.pos (show (!false) = true from rfl) (Ev.now _))
  · have d1 : ¬ decide (1 ≤ n ∧ n ≤ 1000000000) = true := by simpa using c1
    exact ⟨[], false, Ev.pure_bind (num_f n) (Ev.neg d1 (Ev.step (fun k => by rw [spec_CircleOf.j0]) (Ev.pos rfl (Ev.now _)))), Ev.pure_bind (div_f n) (Ev.neg d1 (Ev.now _)), by simp⟩

theorem FnExactCircleOf : laws_FnExactCircleOf.Pure := by
  intro n most _ _
  obtain ⟨r, b, e1, e2, hl⟩ := circle_ev n most
  have e3 := eqIntS_ev r (by omega)
  have e4 := markIntS_ev r 1 (by omega) (by omega)
  have e5 := heldIntS_ev 1 r.length (by omega) (by omega)
  have hn : ¬ (1 + (r.length : Int) < 0) := by omega
  have e : Ev (fun k => laws_FnExactCircleOf.f k n most) true := by
    refine Ev.bind e1 (Ev.bind e2 (Ev.bind e3 (Ev.pos rfl ?_)))
    simp only [bne_self_eq_false]
    refine Ev.step (fun k => by rw [laws_FnExactCircleOf.j0]) (Ev.neg (by decide) (Ev.bind e4 (Ev.bind e5 (Ev.neg hn (Ev.pos rfl (Ev.bind e2 (Ev.bind e3 (Ev.pos rfl ?_))))))))
    simp only [bne_self_eq_false]
    exact Ev.step (fun k => by rw [laws_FnExactCircleOf.j1]) (Ev.neg (by decide) (Ev.bind e5 (Ev.neg hn (Ev.pos rfl (Ev.now _)))))
  exact e.rounds

end Go.Proofs.Ytaldmgfhkaiefaa.Pure
