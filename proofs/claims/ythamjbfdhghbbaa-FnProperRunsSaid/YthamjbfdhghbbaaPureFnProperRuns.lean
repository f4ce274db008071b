/- Proper runs go on by proper sums, and circles come back to themselves. -/
import Derived.Test.YthamjbfdhghbbaaPFnProperRunsx
namespace Go.Proofs.Ythamjbfdhghbbaa.Pure
open Go.RowKit Go.Proofs.Ythamjbfdhghbbaa.PFnProperRuns Go.Proofs.YthamjbfdhghbbaaW.PrintWords Go.Proofs.YthamjbfdhghbbaaW.PrintLast
set_option linter.unusedVariables false
set_option linter.unusedSimpArgs false
/-! ### words on rounds and on int's wraps -/
theorem Ev.pos {α : Type} {c : Prop} [Decidable c] {g f : Nat → Option α} {r : α} (hc : c) (h : Ev g r) : Ev (fun k => if c then g k else f k) r := Ev.congr (fun _ => if_pos hc) h
theorem Ev.neg {α : Type} {c : Prop} [Decidable c] {g f : Nat → Option α} {r : α} (hc : ¬ c) (h : Ev f r) : Ev (fun k => if c then g k else f k) r := Ev.congr (fun _ => if_neg hc) h
theorem Ev.some {α : Type} {a r : α} (h : a = r) : Ev (fun _ => Option.some a) r := h ▸ Ev.now a
theorem Ev.bind1 {α β : Type} {g : Nat → Option α} {f : Nat → α → Option β} {a : α} {r : β} (h : Ev g a) (k : Ev (fun n => f n a) r) : Ev (fun n => (g n).bind (f n)) r := Ev.bind h k
theorem Ev.pure_bind {α β : Type} {o : Option α} {f : Nat → α → Option β} {a : α} {r : β} (h : o = Option.some a) (k : Ev (fun n => f n a) r) : Ev (fun n => o.bind (f n)) r := by
  subst h; exact k
theorem Ev.two {α β : Type} {g : Nat → Option α} {f : Nat → Option β} {a : α} {b : β} (h : Ev g a) (k : Ev f b) : ∃ n, g n = Option.some a ∧ f n = Option.some b := by
  obtain ⟨K, h⟩ := h
  obtain ⟨K', k⟩ := k
  exact ⟨max K K', h _ (by omega), k _ (by omega)⟩
theorem w64 {n : Int} (h0 : -9223372036854775808 ≤ n) (h1 : n < 9223372036854775808) : wrap64 n = n := by unfold wrap64; omega
theorem w64_emod (n : Int) : wrap64 n % 18446744073709551616 = n % 18446744073709551616 := by unfold wrap64; omega
theorem w64_congr {a b : Int} (h : a % 18446744073709551616 = b % 18446744073709551616) : wrap64 a = wrap64 b := by unfold wrap64; omega
theorem w64_lo (n : Int) : -9223372036854775808 ≤ wrap64 n := by unfold wrap64; omega
theorem w64_hi (n : Int) : wrap64 n < 9223372036854775808 := by unfold wrap64; omega
theorem int_wf {a : Int} (h : (Lit.int .i64 a).wf = true) : -9223372036854775808 ≤ a ∧ a ≤ 9223372036854775807 := by
  simp [Lit.wf] at h
  exact ⟨h.1, h.2⟩

/-! ### factors, sums of divisors: both texts, 1 ≤ n ≤ 10^9 -/
def prodL : List Int → Int
  | [] => 1
  | x :: xs => x * prodL xs
theorem prodL_append : ∀ (a b : List Int), prodL (a ++ b) = prodL a * prodL b
  | [], b => by simp [prodL]
  | x :: a, b => by simp only [List.cons_append, prodL, prodL_append a b, Int.mul_assoc]
theorem prodL_pos : ∀ (a : List Int), (∀ x ∈ a, 2 ≤ x) → 1 ≤ prodL a
  | [], _ => by simp [prodL]
  | x :: a, h => by
    have h1 := prodL_pos a (fun y hy => h y (List.mem_cons_of_mem _ hy))
    have h2 := h x List.mem_cons_self
    have := Int.mul_le_mul (show 1 ≤ x by omega) h1 (by omega) (by omega)
    simp only [prodL]; omega
theorem factors_same : ∀ k, (∀ x y z, impl_factors.l0 k x y z = spec_dvFactors.l0 k x y z) ∧ (∀ x y z, impl_factors.l1 k x y z = spec_dvFactors.l1 k x y z)
  | 0 => ⟨fun _ _ _ => rfl, fun _ _ _ => rfl⟩
  | k + 1 => by
    obtain ⟨h0, h1⟩ := factors_same k
    exact ⟨fun x y z => by simp only [impl_factors.l0, spec_dvFactors.l0, h1], fun x y z => by simp only [impl_factors.l1, spec_dvFactors.l1, h0, h1]⟩
theorem sq_le {a b : Int} (h0 : 0 ≤ a) (h : a ≤ b) : a * a ≤ b * b := Int.mul_le_mul h h h0 (by omega)
theorem factors_ev (d : Nat) :
    (∀ (n p : Int) (out : List Int), 1 ≤ n → n ≤ 1000000000 → 2 ≤ p → p ≤ 31623 → out.length + n ≤ 1000000000 → (∀ x ∈ out, 2 ≤ x) → 2 * (31624 - p) + 1 + n ≤ d →
      ∃ fs, Ev (fun k => spec_dvFactors.l0 k n out p) fs ∧ prodL fs = prodL out * n ∧ (∀ x ∈ fs, 2 ≤ x) ∧ fs.length ≤ 1000000000) ∧
    (∀ (n p : Int) (out : List Int), 1 ≤ n → n ≤ 1000000000 → 2 ≤ p → p ≤ 31622 → out.length + n ≤ 1000000000 → (∀ x ∈ out, 2 ≤ x) → 2 * (31624 - p) + n ≤ d →
      ∃ fs, Ev (fun k => spec_dvFactors.l1 k n out p) fs ∧ prodL fs = prodL out * n ∧ (∀ x ∈ fs, 2 ≤ x) ∧ fs.length ≤ 1000000000) := by
  induction d with
  | zero => exact ⟨fun n p out _ _ _ _ _ _ _ => by omega, fun n p out _ _ _ _ _ _ _ => by omega⟩
  | succ d ih =>
    obtain ⟨ih0, ih1⟩ := ih
    refine ⟨fun n p out h1 h2 h3 h4 h5 h6 h7 => ?_, fun n p out h1 h2 h3 h4 h5 h6 h7 => ?_⟩
    · have hpp := sq_le (by omega) h4
      have hp0 := sq_le (by omega) h3
      have hw : wrap64 (p * p) = p * p := w64 (by omega) (by omega)
      by_cases c : p * p ≤ n
      · have hp : p ≤ 31622 := by
          by_cases hh : p ≤ 31622
          · exact hh
          · have : p = 31623 := by omega
            subst this; omega
        obtain ⟨fs, e, r⟩ := ih1 n p out h1 h2 h3 hp h5 h6 (by omega)
        exact ⟨fs, Ev.step (fun k => by rw [spec_dvFactors.l0]) (Ev.pos (by rw [hw]; exact c) e), r⟩
      · by_cases c1 : n > 1
        · refine ⟨out ++ [n], Ev.step (fun k => by rw [spec_dvFactors.l0]) (Ev.neg (by rw [hw]; exact c) (Ev.pos c1 (Ev.pos (by omega) (Ev.now _)))), by simp [prodL_append, prodL], ?_, by simp; omega⟩
          intro x hx
          rcases List.mem_append.1 hx with hx | hx
          · exact h6 x hx
          · simp at hx; omega
        · have : n = 1 := by omega
          subst this
          exact ⟨out, Ev.step (fun k => by rw [spec_dvFactors.l0]) (Ev.neg (by rw [hw]; exact c) (Ev.neg c1 (Ev.now _))), by simp, h6, by omega⟩
    · have hm : Int.tmod n p = n % p := Int.tmod_eq_emod_of_nonneg (by omega)
      have hd : Int.tdiv n p = n / p := Int.tdiv_eq_ediv_of_nonneg (by omega)
      by_cases c : n % p = 0
      · have he : n = p * (n / p) := by have := Int.mul_ediv_add_emod n p; omega
        have hq1 : 1 ≤ n / p := by
          by_cases hz : 1 ≤ n / p
          · exact hz
          · have hz2 : n / p ≤ 0 := by omega
            have := Int.mul_le_mul_of_nonneg_left hz2 (show 0 ≤ p by omega)
            omega
        have hq2 : 2 * (n / p) ≤ p * (n / p) := Int.mul_le_mul_of_nonneg_right h3 (by omega)
        have hw : wrap64 (Int.tdiv n p) = n / p := by rw [hd]; exact w64 (by omega) (by omega)
        obtain ⟨fs, e, r1, r2, r3⟩ := ih1 (n / p) p (out ++ [p]) hq1 (by omega) h3 h4 (by simp; omega) (fun x hx => by
          rcases List.mem_append.1 hx with hx | hx
          · exact h6 x hx
          · simp at hx; omega) (by omega)
        refine ⟨fs, Ev.step (fun k => by rw [spec_dvFactors.l1]) (Ev.neg (by omega) (Ev.pos (by rw [hm]; exact c) (Ev.pos (by omega) (by rw [hw]; exact e)))), ?_, r2, r3⟩
        rw [r1, prodL_append]; simp only [prodL, Int.mul_one]; rw [Int.mul_assoc, ← he]
      · have hw : wrap64 (p + 1) = p + 1 := w64 (by omega) (by omega)
        obtain ⟨fs, e, r⟩ := ih0 n (p + 1) out h1 h2 (by omega) (by omega) h5 h6 (by omega)
        exact ⟨fs, Ev.step (fun k => by rw [spec_dvFactors.l1]) (Ev.neg (by omega) (Ev.neg (by rw [hm]; exact c) (by rw [hw]; exact e))), r⟩
theorem factors_all (n : Int) (h1 : 1 ≤ n) (h2 : n ≤ 1000000000) : ∃ fs, Ev (fun k => spec_dvFactors.f k n) fs ∧ Ev (fun k => impl_factors.f k n) fs ∧ prodL fs = n ∧ (∀ x ∈ fs, 2 ≤ x) ∧ fs.length ≤ 1000000000 := by
  obtain ⟨fs, e, r1, r2, r3⟩ := (factors_ev (2 * 31624 + 1 + n.toNat)).1 n 2 [] h1 h2 (by omega) (by omega) (by simp; omega) (by simp) (by omega)
  exact ⟨fs, e, Ev.congr (fun k => (factors_same k).1 _ _ _) e, by simpa [prodL] using r1, r2, r3⟩
theorem two_sub {P : Int} : 2 * P - 1 ≤ P * P := by
  have h : 0 ≤ (P - 1) * (P - 1) := by
    rcases Int.le_total 0 (P - 1) with h | h
    · exact Int.mul_nonneg h h
    · exact Int.mul_nonneg_of_nonpos_of_nonpos h h
  rw [Int.sub_mul, Int.mul_sub] at h; omega
/-- One stretch of equal factors, from any of its places on. -/
theorem sums_ev (xs0 : List Int) (hl0 : xs0.length ≤ 1000000000) : ∀ (xs : List Int) (i : Nat), xs0.drop i = xs → i ≤ xs0.length → (∀ x ∈ xs, 2 ≤ x) →
    ∀ (s c part P p j : Int), 2 ≤ p → 1 ≤ P → P ≤ part → part ≤ 2 * P - 1 → part * p + 1 = part + P * p → 1 ≤ s → s * (P * prodL xs * (P * prodL xs)) ≤ 1000000000000000000 →
    ∃ T c', Ev (fun k => impl_divisors.l1 k s c xs part j p) (s * T, c') ∧ Ev (fun k => spec_dvSums.l1 k s c xs0 i p P j part) (s * T, c') ∧ P * prodL xs ≤ T ∧ T ≤ P * prodL xs * (P * prodL xs) ∧ (P < part → P * prodL xs + 1 ≤ T) := by
  intro xs
  induction xs with
  | nil =>
    intro i hd hi hx s c part P p j hp hP h1 h2 h3 hs hb
    have hin : ¬ (i : Int) < (xs0.length : Int) := by
      intro h
      have : (xs0.drop i).length = 0 := by rw [hd]; rfl
      rw [List.length_drop] at this; omega
    simp only [prodL, Int.mul_one] at hb ⊢
    have hPP := @two_sub P
    have hsp : s * part ≤ s * (P * P) := Int.mul_le_mul_of_nonneg_left (by omega) (by omega)
    have hsp0 : 0 ≤ s * part := Int.mul_nonneg (by omega) (by omega)
    have hw : wrap64 (s * part) = s * part := w64 (by omega) (by omega)
    refine ⟨part, wrap64 (c * wrap64 (j + 1)), ?_, ?_, by omega, by omega, by omega⟩
    · refine Ev.step (fun k => by rw [impl_divisors.l1]) (Ev.neg (by simp) ?_)
      exact Ev.step (fun k => by rw [impl_divisors.l0]) (Ev.neg (by simp) (by rw [hw]; exact Ev.now _))
    · refine Ev.step (fun k => by rw [spec_dvSums.l1]) (Ev.neg hin ?_)
      exact Ev.step (fun k => by rw [spec_dvSums.l0]) (Ev.neg hin (by rw [hw]; exact Ev.now _))
  | cons x r ih =>
    intro i hd hi hx s c part P p j hp hP h1 h2 h3 hs hb
    have hin : (i : Int) < (xs0.length : Int) := by
      have : (xs0.drop i).length = r.length + 1 := by rw [hd]; rfl
      rw [List.length_drop] at this; omega
    have hget : rd xs0 (i : Int) = x := by
      unfold rd
      have : (xs0.drop i)[0]? = some x := by rw [hd]; rfl
      rw [List.getElem?_drop] at this
      simp only [Nat.add_zero] at this
      simp [List.getD_eq_getElem?_getD, this]
    have hrd : rd (x :: r) 0 = x := rfl
    have hlen : (0 : Int) < ((x :: r).length : Int) := Int.ofNat_lt.2 (Nat.succ_pos _)
    have hlen1 : (1 : Int) ≤ ((x :: r).length : Int) := Int.ofNat_le.2 (Nat.succ_pos _)
    have hdr : xs0.drop (i + 1) = r := by rw [← List.drop_drop, hd]; rfl
    have hx2 := hx x List.mem_cons_self
    have hxr : ∀ y ∈ r, 2 ≤ y := fun y hy => hx y (List.mem_cons_of_mem _ hy)
    have hr1 := prodL_pos r hxr
    have hwi : wrap64 ((i : Int) + 1) = ((i + 1 : Nat) : Int) := by rw [w64 (by omega) (by omega)]; rfl
    simp only [prodL] at hb ⊢
    by_cases hxp : x = p
    · subst hxp
      have hQ : P * (x * prodL r) = P * x * prodL r := by rw [Int.mul_assoc]
      rw [hQ] at hb ⊢
      have hPx : 1 * 2 ≤ P * x := Int.mul_le_mul hP hx2 (by omega) (by omega)
      have hQ1 : P * x ≤ P * x * prodL r := by have := Int.mul_le_mul_of_nonneg_left hr1 (show 0 ≤ P * x by omega); omega
      have hbd : P * x * prodL r * (P * x * prodL r) ≤ 1000000000000000000 := by
        have hnn : 0 ≤ P * x * prodL r * (P * x * prodL r) := Int.mul_nonneg (by omega) (by omega)
        have := Int.mul_le_mul_of_nonneg_right hs hnn
        omega
      have hPP := @two_sub (P * x)
      have hPQ : P * x * (P * x) ≤ P * x * prodL r * (P * x * prodL r) := sq_le (by omega) hQ1
      have hpa : part * x ≤ (2 * P - 1) * x := Int.mul_le_mul_of_nonneg_right h2 (by omega)
      rw [Int.sub_mul, Int.mul_assoc] at hpa
      have hpa0 : P * x ≤ part * x := Int.mul_le_mul_of_nonneg_right h1 (by omega)
      have hw1 : wrap64 (wrap64 (part * x) + 1) = part * x + 1 := by rw [w64 (n := part * x) (by omega) (by omega), w64 (by omega) (by omega)]
      have hw2 : wrap64 (P * x) = P * x := w64 (by omega) (by omega)
      have hI : (part * x + 1) * x + 1 = part * x + 1 + P * x * x := by
        have h4 : (part * x + 1) * x = (part + P * x) * x := by rw [h3]
        rw [h4, Int.add_mul]; omega
      have hw3 : wrap64 (part + P * x) = part * x + 1 := by rw [← h3]; exact w64 (by omega) (by omega)
      obtain ⟨T, c', e1, e2, b1, b2, b3⟩ := ih (i + 1) hdr (Int.ofNat_lt.1 hin) hxr s c (part * x + 1) (P * x) x (wrap64 (j + 1)) hp (by omega) (by omega) (by omega) hI hs hb
      refine ⟨T, c', ?_, ?_, b1, b2, fun _ => b3 (by omega)⟩
      · refine Ev.step (fun k => by rw [impl_divisors.l1]) (Ev.pos hlen (Ev.pos hlen (Ev.pos hrd (Ev.pos hlen1 ?_))))
        rw [hw1]; exact e1
      · refine Ev.step (fun k => by rw [spec_dvSums.l1]) (Ev.pos hin (Ev.pos (Int.natCast_nonneg i) (Ev.pos hget ?_)))
        rw [hw2, hw3, hwi]; exact e2
    · have hPP := @two_sub P
      have hpd : 1 * 1 ≤ x * prodL r := Int.mul_le_mul (by omega) hr1 (by omega) (by omega)
      have hR2 : 1 * 1 ≤ x * prodL r * (x * prodL r) := Int.mul_le_mul (by omega) (by omega) (by omega) (by omega)
      have hPart : part * (x * prodL r * (x * prodL r)) ≤ P * P * (x * prodL r * (x * prodL r)) := Int.mul_le_mul_of_nonneg_right (by omega) (by omega)
      have hre : P * P * (x * prodL r * (x * prodL r)) = P * (x * prodL r) * (P * (x * prodL r)) := by simp only [Int.mul_assoc, Int.mul_left_comm]
      have hs2 : s * part * (x * prodL r * (x * prodL r)) ≤ 1000000000000000000 := by
        have := Int.mul_le_mul_of_nonneg_left hPart (show 0 ≤ s by omega)
        rw [hre] at this
        rw [Int.mul_assoc]; omega
      have hsp0 : 1 * 1 ≤ s * part := Int.mul_le_mul hs (by omega) (by omega) (by omega)
      have hsp : s * part ≤ s * part * (x * prodL r * (x * prodL r)) := by have := Int.mul_le_mul_of_nonneg_left hR2 (show 0 ≤ s * part by omega); omega
      have hw : wrap64 (s * part) = s * part := w64 (by omega) (by omega)
      have hx3 : x ≤ x * prodL r := by have := Int.mul_le_mul_of_nonneg_left hr1 (show 0 ≤ x by omega); omega
      have hx4 : x * prodL r ≤ x * prodL r * (x * prodL r) := by have := Int.mul_le_mul_of_nonneg_left (show 1 ≤ x * prodL r by omega) (show 0 ≤ x * prodL r by omega); omega
      have hb1 : x * prodL r * (x * prodL r) ≤ 1000000000000000000 := by have := Int.mul_le_mul_of_nonneg_right (show 1 ≤ s * part by omega) (show 0 ≤ x * prodL r * (x * prodL r) by omega); omega
      have hw1 : wrap64 (wrap64 (1 * x) + 1) = x + 1 := by rw [Int.one_mul, w64 (n := x) (by omega) (by omega), w64 (by omega) (by omega)]
      have hw2 : wrap64 (1 * x) = x := by rw [Int.one_mul]; exact w64 (by omega) (by omega)
      have hw3 : wrap64 (1 + x) = x + 1 := by rw [w64 (by omega) (by omega)]; omega
      obtain ⟨T, c', e1, e2, b1, b2, b3⟩ := ih (i + 1) hdr (Int.ofNat_lt.1 hin) hxr (s * part) (wrap64 (c * wrap64 (j + 1))) (x + 1) x x (wrap64 (0 + 1)) hx2 (by omega) (by omega) (by omega) (by rw [Int.add_mul]; omega) (by omega) hs2
      have b3' := b3 (by omega)
      have hT1 : P * (x * prodL r + 1) ≤ part * T := Int.mul_le_mul h1 b3' (by omega) (by omega)
      rw [Int.mul_add] at hT1
      have hT2 : part * T ≤ part * (x * prodL r * (x * prodL r)) := Int.mul_le_mul_of_nonneg_left b2 (by omega)
      refine ⟨part * T, c', ?_, ?_, by omega, by omega, fun _ => by omega⟩
      · refine Ev.step (fun k => by rw [impl_divisors.l1]) (Ev.pos hlen (Ev.pos hlen (Ev.neg (by rw [hrd]; exact hxp) ?_)))
        refine Ev.step (fun k => by rw [impl_divisors.l0]) (Ev.pos hlen (Ev.pos hlen ?_))
        rw [hw, hrd]
        refine Ev.step (fun k => by rw [impl_divisors.l1]) (Ev.pos hlen (Ev.pos hlen (Ev.pos hrd (Ev.pos hlen1 ?_))))
        rw [hw1, ← Int.mul_assoc]; exact e1
      · refine Ev.step (fun k => by rw [spec_dvSums.l1]) (Ev.pos hin (Ev.pos (Int.natCast_nonneg i) (Ev.neg (by rw [hget]; exact hxp) ?_)))
        refine Ev.step (fun k => by rw [spec_dvSums.l0]) (Ev.pos hin (Ev.pos (Int.natCast_nonneg i) ?_))
        rw [hw, hget]
        refine Ev.step (fun k => by rw [spec_dvSums.l1]) (Ev.pos hin (Ev.pos (Int.natCast_nonneg i) (Ev.pos hget ?_)))
        rw [hw2, hw3, hwi, ← Int.mul_assoc]; exact e2

theorem sums_all (n : Int) (h1 : 1 ≤ n) (h2 : n ≤ 1000000000) : ∃ S c, Ev (fun k => spec_dvSums.f k n) (S, c) ∧ Ev (fun k => impl_divisors.f k n) (S, c) ∧ n ≤ S ∧ S ≤ n * n ∧ (n = 1 → S = 1) ∧ (2 ≤ n → n + 1 ≤ S) := by
  obtain ⟨fs, e1, e2, hp, hx, hl⟩ := factors_all n h1 h2
  have hn2 : n * n ≤ 1000000000 * 1000000000 := sq_le (by omega) h2
  cases fs with
  | nil =>
    simp only [prodL] at hp
    subst hp
    refine ⟨1, 1, ?_, ?_, by omega, by omega, fun _ => rfl, fun h => by omega⟩
    · exact Ev.bind e1 (Ev.step (fun k => by rw [spec_dvSums.l0]) (Ev.neg (by simp) (Ev.now _)))
    · exact Ev.bind e2 (Ev.step (fun k => by rw [impl_divisors.l0]) (Ev.neg (by simp) (Ev.now _)))
  | cons x r =>
    have hlen : (0 : Int) < ((x :: r).length : Int) := Int.ofNat_lt.2 (Nat.succ_pos _)
    have hlen1 : (1 : Int) ≤ ((x :: r).length : Int) := Int.ofNat_le.2 (Nat.succ_pos _)
    have hrd : rd (x :: r) 0 = x := rfl
    have hx2 := hx x List.mem_cons_self
    have hxr : ∀ y ∈ r, 2 ≤ y := fun y hy => hx y (List.mem_cons_of_mem _ hy)
    have hr1 := prodL_pos r hxr
    simp only [prodL] at hp
    have hxn : x ≤ n := by have := Int.mul_le_mul_of_nonneg_left hr1 (show 0 ≤ x by omega); omega
    have hn0 : n ≤ n * n := by have := Int.mul_le_mul_of_nonneg_left h1 (show 0 ≤ n by omega); omega
    have hw1 : wrap64 (wrap64 (1 * x) + 1) = x + 1 := by rw [Int.one_mul, w64 (n := x) (by omega) (by omega), w64 (by omega) (by omega)]
    have hw2 : wrap64 (1 * x) = x := by rw [Int.one_mul]; exact w64 (by omega) (by omega)
    have hw3 : wrap64 (1 + x) = x + 1 := by rw [w64 (by omega) (by omega)]; omega
    have hw4 : wrap64 ((0 : Int) + 1) = ((0 + 1 : Nat) : Int) := w64 (by decide) (by decide)
    have hI : (x + 1) * x + 1 = x + 1 + x * x := by rw [Int.add_mul]; omega
    obtain ⟨T, c', e3, e4, b1, b2, b3⟩ := sums_ev (x :: r) hl r (0 + 1) rfl (Nat.succ_pos _) hxr 1 1 (x + 1) x x (wrap64 (0 + 1)) hx2 (by omega) (by omega) (by omega) hI (by omega) (by rw [hp]; omega)
    rw [hp] at b1 b2 b3
    rw [Int.one_mul] at e3 e4
    have b4 := b3 (by omega)
    refine ⟨T, c', ?_, ?_, by omega, b2, fun h => by omega, fun _ => b4⟩
    · refine Ev.bind e1 (Ev.step (fun k => by rw [spec_dvSums.l0]) (Ev.pos hlen (Ev.pos (Int.le_refl 0) ?_)))
      rw [hrd]
      refine Ev.step (fun k => by rw [spec_dvSums.l1]) (Ev.pos hlen (Ev.pos (Int.le_refl 0) (Ev.pos hrd ?_)))
      rw [hw2, hw3]
      rw [← hw4] at e4; exact e4
    · refine Ev.bind e2 (Ev.step (fun k => by rw [impl_divisors.l0]) (Ev.pos hlen (Ev.pos hlen ?_)))
      rw [hrd]
      refine Ev.step (fun k => by rw [impl_divisors.l1]) (Ev.pos hlen (Ev.pos hlen (Ev.pos hrd (Ev.pos hlen1 ?_))))
      rw [hw1]; exact e3
/-- The proper sum. -/
theorem proper_all (n : Int) (h1 : 1 ≤ n) (h2 : n ≤ 1000000000) : ∃ s, Ev (fun k => spec_dvProper.f k n) s ∧ Ev (fun k => impl_proper.f k n) s ∧ 0 ≤ s ∧ s ≤ 1000000000000000000 ∧ (n = 1 → s = 0) ∧ (2 ≤ n → 1 ≤ s) := by
  obtain ⟨S, c, e1, e2, b0, b1, b2, b3⟩ := sums_all n h1 h2
  have hn2 : n * n ≤ 1000000000 * 1000000000 := sq_le (by omega) h2
  have hw : wrap64 (S - n) = S - n := w64 (by omega) (by omega)
  refine ⟨S - n, ?_, ?_, by omega, by omega, fun h => by have := b2 h; omega, fun h => by have := b3 h; omega⟩
  · exact Ev.bind e1 (Ev.some hw)
  · exact Ev.bind e2 (Ev.some hw)
open Classical in
noncomputable def pr (n : Int) : Int := if h : 1 ≤ n ∧ n ≤ 1000000000 then Classical.choose (proper_all n h.1 h.2) else 0
theorem pr_ev (n : Int) (h1 : 1 ≤ n) (h2 : n ≤ 1000000000) : Ev (fun k => spec_dvProper.f k n) (pr n) ∧ Ev (fun k => impl_proper.f k n) (pr n) ∧ 0 ≤ pr n ∧ pr n ≤ 1000000000000000000 ∧ (n = 1 → pr n = 0) ∧ (2 ≤ n → 1 ≤ pr n) := by
  unfold pr
  rw [dif_pos ⟨h1, h2⟩]
  exact Classical.choose_spec (proper_all n h1 h2)

/-! ### first places in lists -/
theorem rd_get {xs : List Int} {i : Nat} (h : i < xs.length) : rd xs (i : Int) = xs[i] := by
  simp [rd, List.getD_eq_getElem?_getD, List.getElem?_eq_getElem h]
/-- The first place of s, or -1. -/
def ix (l : List Int) (s : Int) : Int := match l.findIdx? (fun x => x == s) with | some i => (i : Int) | none => -1
theorem ix_some {l : List Int} {s : Int} {i : Nat} (h : i < l.length) (he : l[i] = s) (hn : ∀ x ∈ l.take i, x ≠ s) : ix l s = i := by
  unfold ix
  rw [List.findIdx?_eq_some_iff_getElem.2 ⟨h, by simpa using he, fun j hj => ?_⟩]
  have := hn (l[j]'(by omega)) (List.mem_take_iff_getElem.2 ⟨j, by omega, rfl⟩)
  simpa using this
theorem ix_none {l : List Int} {s : Int} (hn : ∀ x ∈ l, x ≠ s) : ix l s = -1 := by
  unfold ix
  rw [List.findIdx?_eq_none_iff.2 (fun x hx => by simpa using hn x hx)]
theorem ix_mem {l : List Int} {s : Int} (h : s ∈ l) : ∃ i : Nat, ix l s = i ∧ ∃ hl : i < l.length, l[i] = s ∧ ∀ j (hj : j < i), l[j]'(by omega) ≠ s := by
  unfold ix
  cases hf : l.findIdx? (fun x => x == s) with
  | none =>
    have := List.findIdx?_eq_none_iff.1 hf s h
    simp at this
  | some i =>
    obtain ⟨hl, he, hn⟩ := List.findIdx?_eq_some_iff_getElem.1 hf
    exact ⟨i, rfl, hl, by simpa using he, fun j hj => by simpa using hn j hj⟩
theorem take_ne_succ {l : List Int} {s : Int} {i : Nat} (h : i < l.length) (hne : ¬ l[i] = s) (hn : ∀ x ∈ l.take i, x ≠ s) : ∀ x ∈ l.take (i + 1), x ≠ s := by
  intro x hx
  rw [List.take_succ_eq_append_getElem h, List.mem_append] at hx
  rcases hx with hx | hx
  · exact hn x hx
  · simp at hx; rw [hx]; exact hne

theorem dvAt_ev (l : List Int) (s : Int) (hl : (l.length : Int) ≤ 4611686018427387904) : Ev (fun k => spec_dvAt.f k l s) (ix l s) := by
  have key : ∀ (d i : Nat), l.length = i + d → (∀ x ∈ l.take i, x ≠ s) → Ev (fun k => spec_dvAt.l0 k s l (l.length : Int) (i : Int)) (ix l s) := by
    intro d
    induction d with
    | zero =>
      intro i h hn
      refine Ev.step (fun k => by rw [spec_dvAt.l0]) (Ev.neg (by omega) (Ev.some (ix_none (fun x hx => hn x (by rw [List.take_of_length_le (by omega)]; exact hx))).symm))
    | succ d ih =>
      intro i h hn
      have hlt : i < l.length := by omega
      have hlt2 : (i : Int) < (l.length : Int) := by omega
      have hw : wrap64 ((i : Int) + 1) = ((i + 1 : Nat) : Int) := by rw [w64 (by omega) (by omega)]; rfl
      by_cases c : l[i] = s
      · exact Ev.step (fun k => by rw [spec_dvAt.l0]) (Ev.pos hlt2 (Ev.pos (Int.natCast_nonneg i) (Ev.pos hlt2 (Ev.pos (by rw [rd_get hlt]; exact c) (Ev.some (ix_some hlt c hn).symm)))))
      · refine Ev.step (fun k => by rw [spec_dvAt.l0]) (Ev.pos hlt2 (Ev.pos (Int.natCast_nonneg i) (Ev.pos hlt2 (Ev.neg (by rw [rd_get hlt]; exact c) ?_))))
        rw [hw]; exact ih (i + 1) (by omega) (take_ne_succ hlt c hn)
  exact key l.length 0 (by omega) (by simp)
theorem has_ev (l : List Int) (s : Int) (hl : (l.length : Int) ≤ 4611686018427387904) : Ev (fun k => spec_l1Has.f k l s) (decide (s ∈ l)) := by
  have key : ∀ (d i : Nat), l.length = i + d → (∀ x ∈ l.take i, x ≠ s) → Ev (fun k => spec_l1Has.l0 k s l (l.length : Int) (i : Int)) (decide (s ∈ l)) := by
    intro d
    induction d with
    | zero =>
      intro i h hn
      refine Ev.step (fun k => by rw [spec_l1Has.l0]) (Ev.neg (by omega) (Ev.some (decide_eq_false (fun hm => hn s (by rw [List.take_of_length_le (by omega)]; exact hm) rfl)).symm))
    | succ d ih =>
      intro i h hn
      have hlt : i < l.length := by omega
      have hlt2 : (i : Int) < (l.length : Int) := by omega
      have hw : wrap64 ((i : Int) + 1) = ((i + 1 : Nat) : Int) := by rw [w64 (by omega) (by omega)]; rfl
      by_cases c : l[i] = s
      · exact Ev.step (fun k => by rw [spec_l1Has.l0]) (Ev.pos hlt2 (Ev.pos (Int.natCast_nonneg i) (Ev.pos hlt2 (Ev.pos (by rw [rd_get hlt]; exact c) (Ev.some (decide_eq_true (c ▸ List.getElem_mem hlt)).symm)))))
      · refine Ev.step (fun k => by rw [spec_l1Has.l0]) (Ev.pos hlt2 (Ev.pos (Int.natCast_nonneg i) (Ev.pos hlt2 (Ev.neg (by rw [rd_get hlt]; exact c) ?_))))
        rw [hw]; exact ih (i + 1) (by omega) (take_ne_succ hlt c hn)
  exact key l.length 0 (by omega) (by simp)

theorem index_ev (l : List Int) (s : Int) (hl : (l.length : Int) ≤ 4611686018427387904) : Ev (fun k => slices_Index_int_int.f k l s) (ix l s) := by
  have key : ∀ (d i : Nat), l.length = i + d → (∀ x ∈ l.take i, x ≠ s) → Ev (fun k => slices_Index_int_int.l0 k l s (l.length : Int) (i : Int)) (ix l s) := by
    intro d
    induction d with
    | zero =>
      intro i h hn
      refine Ev.step (fun k => by rw [slices_Index_int_int.l0]) (Ev.neg (by omega) (Ev.some (ix_none (fun x hx => hn x (by rw [List.take_of_length_le (by omega)]; exact hx))).symm))
    | succ d ih =>
      intro i h hn
      have hlt : i < l.length := by omega
      have hlt2 : (i : Int) < (l.length : Int) := by omega
      have hw : wrap64 ((i : Int) + 1) = ((i + 1 : Nat) : Int) := by rw [w64 (by omega) (by omega)]; rfl
      by_cases c : l[i] = s
      · exact Ev.step (fun k => by rw [slices_Index_int_int.l0]) (Ev.pos hlt2 (Ev.pos (Int.natCast_nonneg i) (Ev.pos hlt2 (Ev.pos (by rw [rd_get hlt]; exact c.symm) (Ev.some (ix_some hlt c hn).symm)))))
      · refine Ev.step (fun k => by rw [slices_Index_int_int.l0]) (Ev.pos hlt2 (Ev.pos (Int.natCast_nonneg i) (Ev.pos hlt2 (Ev.neg (by rw [rd_get hlt]; exact fun h => c h.symm) ?_))))
        rw [hw]; exact ih (i + 1) (by omega) (take_ne_succ hlt c hn)
  exact key l.length 0 (by omega) (by simp)
theorem ix_range {l : List Int} {s : Int} : ix l s = -1 ∧ s ∉ l ∨ 0 ≤ ix l s ∧ ix l s < l.length ∧ s ∈ l := by
  by_cases h : s ∈ l
  · obtain ⟨i, e, hl, _⟩ := ix_mem h
    rw [e]; exact .inr ⟨by omega, by omega, h⟩
  · exact .inl ⟨ix_none (fun x hx he => h (he ▸ hx)), h⟩
theorem contains_ev (l : List Int) (s : Int) (hl : (l.length : Int) ≤ 4611686018427387904) : Ev (fun k => slices_Contains_int_int.f k l s) (decide (s ∈ l)) := by
  refine Ev.bind (index_ev l s hl) (Ev.some ?_)
  rcases @ix_range l s with ⟨h1, h2⟩ | ⟨h1, h2, h3⟩
  · rw [h1, decide_eq_false h2]; decide
  · rw [decide_eq_true h3, decide_eq_true h1]

/-! ### proper runs -/
theorem in_f (a b c : Int) : impl_in.f a b c = spec_l1In.f a b c := rfl
theorem l1In_f (a b c : Int) : spec_l1In.f a b c = some (decide (b ≤ a ∧ a ≤ c)) := by
  unfold spec_l1In.f
  by_cases h : b ≤ a
  · rw [if_pos h]; simp [h]
  · rw [if_neg h]; simp [h]
theorem num_f (n : Int) : spec_dvNumber.f n = some (decide (1 ≤ n ∧ n ≤ 1000000000)) := by unfold spec_dvNumber.f; rw [l1In_f]; rfl
theorem div_f (n : Int) : impl_isDivided.f n = some (decide (1 ≤ n ∧ n ≤ 1000000000)) := by unfold impl_isDivided.f; rw [in_f, l1In_f]; rfl
theorem terms_f (n : Int) : spec_dvTerms.f n = some (decide (1 ≤ n ∧ n ≤ 60)) := by unfold spec_dvTerms.f; rw [l1In_f]; rfl
theorem last_f (l : List Int) (h : l ≠ []) (hl : (l.length : Int) ≤ 1000) : impl_lastOf.f l = some (l.getLast h) := by
  have hp : 0 < l.length := List.length_pos_iff.2 h
  have hw : wrap64 ((l.length : Int) - 1) = ((l.length - 1 : Nat) : Int) := by rw [w64 (by omega) (by omega)]; omega
  unfold impl_lastOf.f
  rw [hw, if_pos (Int.natCast_nonneg _), if_pos (by omega), rd_get (by omega), List.getLast_eq_getElem]
/-- What both texts' runs come to. -/
structure Run (n most : Int) (out : List Int) (s : Int) : Prop where
  ne : out ≠ []
  first : out[0]? = some n
  len : (out.length : Int) ≤ most
  good : ∀ x ∈ out, 1 ≤ x ∧ x ≤ 1000000000
  last : s = pr (out.getLast ne)
  chain : ∀ i (h : i + 1 < out.length), out[i + 1] = pr (out[i]'(by omega))
  nodup : out.Nodup
theorem Run.next {n most : Int} {out : List Int} {s : Int} (R : Run n most out s) (h1 : (out.length : Int) < most) (h2 : 1 ≤ s ∧ s ≤ 1000000000) (h3 : s ∉ out) : Run n most (out ++ [s]) (pr s) where
  ne := by simp
  first := by rw [List.getElem?_append_left (List.length_pos_iff.2 R.ne)]; exact R.first
  len := by simp only [List.length_append, List.length_cons, List.length_nil]; omega
  good := fun x hx => by
    rcases List.mem_append.1 hx with hx | hx
    · exact R.good x hx
    · simp at hx; rw [hx]; exact h2
  last := by simp
  chain := fun i h => by
    simp only [List.length_append, List.length_cons, List.length_nil] at h
    by_cases c : i + 1 < out.length
    · rw [List.getElem_append_left c, List.getElem_append_left (by omega)]; exact R.chain i c
    · have hi : i + 1 = out.length := by omega
      rw [List.getElem_append_right (by omega), List.getElem_append_left (by omega)]
      simp only [hi, Nat.sub_self, List.getElem_cons_zero]
      rw [R.last, List.getLast_eq_getElem]
      congr 1
      congr 1
      omega
  nodup := by
    rw [List.nodup_append]
    exact ⟨R.nodup, by simp, fun a ha b hb => by simp at hb; rw [hb]; exact fun he => h3 (he ▸ ha)⟩
theorem run_ev (n most : Int) (hm : most ≤ 60) (d : Nat) : ∀ (out : List Int) (s : Int), Run n most out s → most - out.length ≤ d →
    ∃ o t, Run n most o t ∧ Ev (fun k => spec_dvRun.l0 k most out s) (o, t) ∧ Ev (fun k => impl_properRun.l0 k most out) (o, t) ∧ ((o.length : Int) = most ∨ ¬ (1 ≤ t ∧ t ≤ 1000000000) ∨ t ∈ o) := by
  induction d with
  | zero =>
    intro out s R hd
    have hl := R.len
    have hlm : (out.length : Int) = most := by omega
    have hg := R.good _ (List.getLast_mem R.ne)
    obtain ⟨_, e2, _⟩ := pr_ev _ hg.1 hg.2
    refine ⟨out, s, R, Ev.step (fun k => by rw [spec_dvRun.l0]) (Ev.neg (by omega) (Ev.now _)), ?_, .inl hlm⟩
    refine Ev.step (fun k => by rw [impl_properRun.l0]) (Ev.pure_bind (last_f out R.ne (by omega)) (Ev.bind e2 (Ev.pos hlm (Ev.some (congrArg (Prod.mk out) R.last.symm)))))
  | succ d ih =>
    intro out s R hd
    have hl := R.len
    have hg := R.good _ (List.getLast_mem R.ne)
    obtain ⟨_, e2, _⟩ := pr_ev _ hg.1 hg.2
    rw [← R.last] at e2
    have hll : (out.length : Int) ≤ 4611686018427387904 := by omega
    by_cases c : (out.length : Int) = most
    · exact ⟨out, s, R, Ev.step (fun k => by rw [spec_dvRun.l0]) (Ev.neg (by omega) (Ev.now _)), Ev.step (fun k => by rw [impl_properRun.l0]) (Ev.pure_bind (last_f out R.ne (by omega)) (Ev.bind e2 (Ev.pos c (Ev.now _)))), .inl c⟩
    · have hlt : (out.length : Int) < most := by omega
      by_cases c1 : 1 ≤ s ∧ s ≤ 1000000000
      · have d1 : decide (1 ≤ s ∧ s ≤ 1000000000) = true := decide_eq_true c1
        by_cases c2 : s ∈ out
        · have d2 : decide (s ∈ out) = true := decide_eq_true c2
          exact ⟨out, s, R, Ev.step (fun k => by rw [spec_dvRun.l0]) (Ev.pos hlt (Ev.pure_bind (num_f s) (Ev.pos d1 (Ev.bind (has_ev out s hll) (Ev.pos d2 (Ev.now _)))))), Ev.step (fun k => by rw [impl_properRun.l0]) (Ev.pure_bind (last_f out R.ne (by omega)) (Ev.bind e2 (Ev.neg c (Ev.pure_bind (div_f s) (Ev.pos d1 (Ev.bind (contains_ev out s hll) (Ev.pos d2 (Ev.now _)))))))), .inr (.inr c2)⟩
        · have d2 : ¬ decide (s ∈ out) = true := by simpa using c2
          obtain ⟨o, t, R2, e3, e4, hx⟩ := ih (out ++ [s]) (pr s) (R.next hlt c1 c2) (by simp only [List.length_append, List.length_cons, List.length_nil]; omega)
          obtain ⟨e5, _, _⟩ := pr_ev s c1.1 c1.2
          have hlim : out.length < 17592186044416 := by omega
          exact ⟨o, t, R2, Ev.step (fun k => by rw [spec_dvRun.l0]) (Ev.pos hlt (Ev.pure_bind (num_f s) (Ev.pos d1 (Ev.bind (has_ev out s hll) (Ev.neg d2 (Ev.pos hlim (Ev.bind e5 e3))))))), Ev.step (fun k => by rw [impl_properRun.l0]) (Ev.pure_bind (last_f out R.ne (by omega)) (Ev.bind e2 (Ev.neg c (Ev.pure_bind (div_f s) (Ev.pos d1 (Ev.bind (contains_ev out s hll) (Ev.neg d2 (Ev.pos hlim e4)))))))), hx⟩
      · have d1 : ¬ decide (1 ≤ s ∧ s ≤ 1000000000) = true := by simpa using c1
        exact ⟨out, s, R, Ev.step (fun k => by rw [spec_dvRun.l0]) (Ev.pos hlt (Ev.pure_bind (num_f s) (Ev.neg d1 (Ev.now _)))), Ev.step (fun k => by rw [impl_properRun.l0]) (Ev.pure_bind (last_f out R.ne (by omega)) (Ev.bind e2 (Ev.neg c (Ev.pure_bind (div_f s) (Ev.neg d1 (Ev.now _)))))), .inr (.inl c1)⟩
theorem run_all (n most : Int) (h1 : 1 ≤ n ∧ n ≤ 1000000000) (hm : 1 ≤ most ∧ most ≤ 60) :
    ∃ o t, Run n most o t ∧ Ev (fun k => spec_dvRun.f k n most) (o, t) ∧ Ev (fun k => impl_properRun.f k n most) (o, t) ∧ ((o.length : Int) = most ∨ ¬ (1 ≤ t ∧ t ≤ 1000000000) ∨ t ∈ o) := by
  have R : Run n most [n] (pr n) := ⟨by simp, rfl, by simpa using hm.1, fun x hx => by simp at hx; rw [hx]; exact h1, rfl, fun i h => by simp at h, by simp⟩
  obtain ⟨o, t, R2, e1, e2, hx⟩ := run_ev n most hm.2 60 [n] (pr n) R (by simp; omega)
  obtain ⟨e3, _⟩ := pr_ev n h1.1 h1.2
  exact ⟨o, t, R2, Ev.bind e3 e1, e2, hx⟩

/-! ### the least one, and a list from its first place on -/
theorem mn_le (a b : Int) : mn a b ≤ a ∧ mn a b ≤ b ∧ (mn a b = a ∨ mn a b = b) := by unfold mn; split <;> omega
theorem min_ev (l : List Int) (hp : 0 < l.length) (hl : (l.length : Int) ≤ 4611686018427387904) : ∃ m, Ev (fun k => slices_Min_int_int.f k l) m ∧ m ∈ l ∧ ∀ x ∈ l, m ≤ x := by
  have key : ∀ (d i : Nat) (m : Int), l.length = i + d → m ∈ l → (∀ x ∈ l.take i, m ≤ x) → ∃ m', Ev (fun k => slices_Min_int_int.l0 k l m (i : Int)) m' ∧ m' ∈ l ∧ ∀ x ∈ l, m' ≤ x := by
    intro d
    induction d with
    | zero =>
      intro i m h hm hn
      exact ⟨m, Ev.step (fun k => by rw [slices_Min_int_int.l0]) (Ev.neg (by omega) (Ev.now _)), hm, fun x hx => hn x (by rw [List.take_of_length_le (by omega)]; exact hx)⟩
    | succ d ih =>
      intro i m h hm hn
      have hlt : i < l.length := by omega
      have hw : wrap64 ((i : Int) + 1) = ((i + 1 : Nat) : Int) := by rw [w64 (by omega) (by omega)]; rfl
      have h3 := mn_le m l[i]
      obtain ⟨m', e, r⟩ := ih (i + 1) (mn m l[i]) (by omega) (by rcases h3.2.2 with h | h <;> rw [h]; exact hm; exact List.getElem_mem hlt) (fun x hx => by
        rw [List.take_succ_eq_append_getElem hlt, List.mem_append] at hx
        rcases hx with hx | hx
        · have := hn x hx; omega
        · simp at hx; rw [hx]; omega)
      exact ⟨m', Ev.step (fun k => by rw [slices_Min_int_int.l0]) (Ev.pos (by omega) (Ev.pos (Int.natCast_nonneg i) (by rw [hw, rd_get hlt]; exact e))), r⟩
  obtain ⟨m, e, r⟩ := key (l.length - 1) 1 l[0] (by omega) (List.getElem_mem hp) (fun x hx => by
    rw [List.take_succ_eq_append_getElem hp] at hx; simp at hx; rw [hx]; omega)
  have h0 : rd l 0 = l[0] := rd_get (i := 0) hp
  exact ⟨m, Ev.neg (by omega) (Ev.pos (by omega) (by rw [h0]; exact e)), r⟩
/-- From its first least number on. -/
structure Turned (l r : List Int) : Prop where
  at_ : ∃ i m, i < l.length ∧ l[i]? = some m ∧ (∀ x ∈ l, m ≤ x) ∧ (∀ x ∈ l.take i, m < x) ∧ r = l.drop i ++ l.take i
theorem leastFirst_ev (l : List Int) (hp : 0 < l.length) (hl : (l.length : Int) ≤ 1000000) : ∃ r, Ev (fun k => impl_leastFirst.f k l) r ∧ Turned l r := by
  obtain ⟨m, e1, hm, hle⟩ := min_ev l hp (by omega)
  obtain ⟨i, ei, hil, he, hn⟩ := ix_mem hm
  have e2 := index_ev l m (by omega)
  rw [ei] at e2
  have hf : slices_Concat_int_int.f [l.drop (i : Int).toNat, l.take (i : Int).toNat] = some (l.drop i ++ l.take i) := by
    unfold slices_Concat_int_int.f
    rw [if_pos]
    · simp
    · simp only [List.flatten_cons, List.flatten_nil, List.append_nil, List.length_append, List.length_drop, List.length_take]; omega
  refine ⟨l.drop i ++ l.take i, Ev.bind e1 (Ev.bind e2 (Ev.pos (Int.natCast_nonneg i) (Ev.pos (by omega) (Ev.pure_bind hf (Ev.now _))))), ⟨i, m, hil, by rw [List.getElem?_eq_getElem hil, he], hle, fun x hx => ?_, rfl⟩⟩
  obtain ⟨j, hj, hx⟩ := List.mem_take_iff_getElem.1 hx
  have h1 := hle x (hx ▸ List.getElem_mem (by omega))
  have h2 := hn j (by omega)
  rw [hx] at h2
  omega
theorem Turned.same {l r s : List Int} (h : Turned l r) (k : Turned l s) : r = s := by
  obtain ⟨i, m, hi, hm, h1, h2, rfl⟩ := h
  obtain ⟨j, q, hj, hq, k1, k2, rfl⟩ := k
  have hij : i = j := by
    rcases Nat.lt_trichotomy i j with c | c | c
    · have a := k2 m (List.mem_take_iff_getElem.2 ⟨i, by omega, by rw [List.getElem?_eq_getElem hi] at hm; exact Option.some.inj hm⟩)
      have b := h1 q (by rw [List.getElem?_eq_getElem hj] at hq; exact Option.some.inj hq ▸ List.getElem_mem hj)
      omega
    · exact c
    · have a := h2 q (List.mem_take_iff_getElem.2 ⟨j, by omega, by rw [List.getElem?_eq_getElem hj] at hq; exact Option.some.inj hq⟩)
      have b := k1 m (by rw [List.getElem?_eq_getElem hi] at hm; exact Option.some.inj hm ▸ List.getElem_mem hi)
      omega
  rw [hij]

/-! ### how runs end -/
/-- End and circle (as it stands in the run), out of the run. -/
noncomputable def endOf (o : List Int) (t : Int) : Int × List Int :=
  if t = 0 then (0, []) else if t > 1000000000 then (4, []) else if ix o t < 0 then (5, []) else (mn ((o.length : Int) - ix o t) 3, o.drop (ix o t).toNat)
theorem least_f (a b : Int) : spec_l1Least.f a b = some (mn a b) := by
  unfold spec_l1Least.f mn
  by_cases c : a < b
  · rw [if_pos c, if_neg (by omega)]
  · rw [if_neg c]
    by_cases d : b < a
    · rw [if_pos d]
    · rw [if_neg d, show a = b by omega]
theorem Run.t0 {n most : Int} {o : List Int} {t : Int} (R : Run n most o t) : 0 ≤ t ∧ t ≤ 1000000000000000000 ∧ (o.getLast R.ne = 1 ↔ t = 0) := by
  have hg := R.good _ (List.getLast_mem R.ne)
  obtain ⟨_, _, h0, h1, h2, h3⟩ := pr_ev _ hg.1 hg.2
  rw [← R.last] at h0 h1 h2 h3
  refine ⟨h0, h1, h2, fun h => ?_⟩
  by_cases c : 2 ≤ o.getLast R.ne
  · have := h3 c; omega
  · omega
theorem ends_run (n most : Int) (h1 : 1 ≤ n ∧ n ≤ 1000000000) (hm : 1 ≤ most ∧ most ≤ 60) :
    ∃ o t c, Run n most o t ∧ ((o.length : Int) = most ∨ ¬ (1 ≤ t ∧ t ≤ 1000000000) ∨ t ∈ o) ∧ Ev (fun k => spec_dvEnd.f k n most) (endOf o t) ∧ Ev (fun k => impl_endOf.f k n most) ((endOf o t).1, c) ∧ ((endOf o t).2 = [] ∧ c = [] ∨ Turned (endOf o t).2 c) ∧ Ev (fun k => spec_dvRun.f k n most) (o, t) ∧ Ev (fun k => impl_properRun.f k n most) (o, t) := by
  obtain ⟨o, t, R, e1, e2, hx⟩ := run_all n most h1 hm
  have hol : (o.length : Int) ≤ 60 := by have := R.len; omega
  have T := R.t0
  have e3 := index_ev o t (by omega)
  have e4 := dvAt_ev o t (by omega)
  have hlast := last_f o R.ne (by omega)
  by_cases c0 : t = 0
  · refine ⟨o, t, [], R, hx, ?_, ?_, .inl ⟨by simp [endOf, c0], rfl⟩, e1, e2⟩
    · exact Ev.bind e1 (Ev.pos c0 (Ev.some (by simp [endOf, c0])))
    · exact Ev.bind e2 (Ev.bind e3 (Ev.pure_bind hlast (Ev.pos (T.2.2.2 c0) (Ev.some (by simp [endOf, c0])))))
  · have c0' : ¬ o.getLast R.ne = 1 := fun h => c0 (T.2.2.1 h)
    by_cases c1 : t > 1000000000
    · have d1 : ¬ decide (1 ≤ t ∧ t ≤ 1000000000) = true := by simp; omega
      refine ⟨o, t, [], R, hx, ?_, ?_, .inl ⟨by simp [endOf, c0, c1], rfl⟩, e1, e2⟩
      · exact Ev.bind e1 (Ev.neg c0 (Ev.pure_bind (num_f t) (Ev.neg d1 (Ev.some (by simp [endOf, c0, c1])))))
      · exact Ev.bind e2 (Ev.bind e3 (Ev.pure_bind hlast (Ev.neg c0' (Ev.pos c1 (Ev.some (by simp [endOf, c0, c1]))))))
    · have d1 : decide (1 ≤ t ∧ t ≤ 1000000000) = true := decide_eq_true (by omega)
      by_cases c2 : ix o t < 0
      · refine ⟨o, t, [], R, hx, ?_, ?_, .inl ⟨by simp [endOf, c0, c1, c2], rfl⟩, e1, e2⟩
        · exact Ev.bind e1 (Ev.neg c0 (Ev.pure_bind (num_f t) (Ev.pos d1 (Ev.bind e4 (Ev.pos c2 (Ev.some (by simp [endOf, c0, c1, c2])))))))
        · exact Ev.bind e2 (Ev.bind e3 (Ev.pure_bind hlast (Ev.neg c0' (Ev.neg c1 (Ev.pos c2 (Ev.some (by simp [endOf, c0, c1, c2])))))))
      · have hr : ix o t < o.length := by rcases @ix_range o t with h | h <;> omega
        have hr0 : 0 ≤ ix o t := by omega
        have hr1 : ix o t ≤ (o.length : Int) := by omega
        have hdl : ((o.drop (ix o t).toNat).length : Int) = (o.length : Int) - ix o t := by rw [List.length_drop]; omega
        obtain ⟨r, e5, hT⟩ := leastFirst_ev (o.drop (ix o t).toNat) (by omega) (by omega)
        have hw : wrap64 ((o.length : Int) - ix o t) = (o.length : Int) - ix o t := w64 (by omega) (by omega)
        refine ⟨o, t, r, R, hx, ?_, ?_, .inr (by simpa [endOf, c0, c1, c2] using hT), e1, e2⟩
        · refine Ev.bind e1 (Ev.neg c0 (Ev.pure_bind (num_f t) (Ev.pos d1 (Ev.bind e4 (Ev.neg c2 (Ev.pos hr0 (Ev.pos hr1 ?_)))))))
          exact Ev.pure_bind rfl (Ev.pure_bind (least_f _ _) (Ev.some (by rw [hdl]; simp [endOf, c0, c1, c2])))
        · refine Ev.bind e2 (Ev.bind e3 (Ev.pure_bind hlast (Ev.neg c0' (Ev.neg c1 (Ev.neg c2 (Ev.pos hr0 (Ev.pos hr1 (Ev.bind e5 (Ev.some ?_)))))))))
          rw [hw]; simp [endOf, c0, c1, c2]
theorem ends_ev (n most : Int) (h1 : 1 ≤ n ∧ n ≤ 1000000000) (hm : 1 ≤ most ∧ most ≤ 60) :
    ∃ o t c, Run n most o t ∧ ((o.length : Int) = most ∨ ¬ (1 ≤ t ∧ t ≤ 1000000000) ∨ t ∈ o) ∧ Ev (fun k => spec_dvEnd.f k n most) (endOf o t) ∧ Ev (fun k => impl_endOf.f k n most) ((endOf o t).1, c) ∧ ((endOf o t).2 = [] ∧ c = [] ∨ Turned (endOf o t).2 c) := by
  obtain ⟨o, t, c, R, hx, e1, e2, hT, _, _⟩ := ends_run n most h1 hm
  exact ⟨o, t, c, R, hx, e1, e2, hT⟩

/-! ### CircleOf -/
theorem own_f (l : List Int) (hl : (l.length : Int) ≤ 1000000) : spec_l1Own.f l = some l := by
  unfold spec_l1Own.f
  simp only [Option.bind_some]
  rw [if_pos (by simp; omega)]
  simp
theorem argmin_ev (c : List Int) (hp : 0 < c.length) (hl : (c.length : Int) ≤ 1000000) : ∃ r, Ev (fun k => spec_CircleOf.l0 k c 0 c (c.length : Int) 0) (r, true) ∧ Turned c r := by
  have key : ∀ (d i j : Nat) (m : Int), c.length = i + d → j < c.length → c[j]? = some m → (∀ x ∈ c.take i, m ≤ x) → (∀ x ∈ c.take j, m < x) → j ≤ i →
      ∃ r, Ev (fun k => spec_CircleOf.l0 k c (j : Int) c (c.length : Int) (i : Int)) (r, true) ∧ Turned c r := by
    intro d
    induction d with
    | zero =>
      intro i j m h hj hm h1 h2 hji
      refine ⟨c.drop j ++ c.take j, ?_, ⟨j, m, hj, hm, fun x hx => h1 x (by rw [List.take_of_length_le (by omega)]; exact hx), h2, rfl⟩⟩
      have hj2 : (j : Int) ≤ (c.length : Int) := by omega
      refine Ev.step (fun k => by rw [spec_CircleOf.l0]) (Ev.neg (by omega) (Ev.pos (Int.natCast_nonneg j) (Ev.pos hj2 ?_)))
      refine Ev.pure_bind (own_f (c.drop (j : Int).toNat) (by rw [List.length_drop]; omega)) (Ev.pure_bind rfl (Ev.pos ?_ (Ev.some rfl)))
      simp only [List.length_drop, List.length_take]; omega
    | succ d ih =>
      intro i j m h hj hm h1 h2 hji
      have hlt : i < c.length := by omega
      have hlt2 : (i : Int) < (c.length : Int) := by omega
      have hj2 : (j : Int) < (c.length : Int) := by omega
      have hw : wrap64 ((i : Int) + 1) = ((i + 1 : Nat) : Int) := by rw [w64 (by omega) (by omega)]; rfl
      have hcj : c[j] = m := by rw [List.getElem?_eq_getElem hj] at hm; exact Option.some.inj hm
      by_cases q : c[i] < m
      · obtain ⟨r, e, T⟩ := ih (i + 1) i c[i] (by omega) hlt (List.getElem?_eq_getElem hlt) (fun x hx => by
          rw [List.take_succ_eq_append_getElem hlt, List.mem_append] at hx
          rcases hx with hx | hx
          · have := h1 x hx; omega
          · simp at hx; rw [hx]; omega) (fun x hx => by have := h1 x hx; omega) (by omega)
        refine ⟨r, Ev.step (fun k => by rw [spec_CircleOf.l0]) (Ev.pos hlt2 (Ev.pos (Int.natCast_nonneg i) (Ev.pos hlt2 (Ev.pos (Int.natCast_nonneg j) (Ev.pos hj2 (Ev.pos (by rw [rd_get hlt, rd_get hj, hcj]; exact q) ?_)))))), T⟩
        rw [hw]; exact e
      · obtain ⟨r, e, T⟩ := ih (i + 1) j m (by omega) hj hm (fun x hx => by
          rw [List.take_succ_eq_append_getElem hlt, List.mem_append] at hx
          rcases hx with hx | hx
          · exact h1 x hx
          · simp at hx; rw [hx]; omega) h2 (by omega)
        refine ⟨r, Ev.step (fun k => by rw [spec_CircleOf.l0]) (Ev.pos hlt2 (Ev.pos (Int.natCast_nonneg i) (Ev.pos hlt2 (Ev.pos (Int.natCast_nonneg j) (Ev.pos hj2 (Ev.neg (by rw [rd_get hlt, rd_get hj, hcj]; exact q) ?_)))))), T⟩
        rw [hw]; exact e
  exact key c.length 0 0 c[0] (by omega) hp (List.getElem?_eq_getElem hp) (by simp) (by simp) (by omega)
/-- Both texts' circles. -/
theorem circle_ev (n most : Int) : ∃ r b, Ev (fun k => spec_CircleOf.f k n most) (r, b) ∧ Ev (fun k => impl_CircleOf.f k n most) (r, b) ∧ (r.length : Int) ≤ 60 := by
  by_cases c1 : 1 ≤ n ∧ n ≤ 1000000000
  · have d1 : decide (1 ≤ n ∧ n ≤ 1000000000) = true := decide_eq_true c1
    by_cases c2 : 1 ≤ most ∧ most ≤ 60
    · have d2 : decide (1 ≤ most ∧ most ≤ 60) = true := decide_eq_true c2
      obtain ⟨o, t, c, R, _, e1, e2, hT⟩ := ends_ev n most c1 c2
      have hol : (o.length : Int) ≤ 60 := by have := R.len; omega
      rcases hT with ⟨h1, h2⟩ | hT
      · have h1' : ((endOf o t).2.length : Int) = 0 := by rw [h1]; rfl
        refine ⟨[], false, ?_, ?_, by simp⟩
        · refine Ev.pure_bind (num_f n) (Ev.pos d1 (Ev.pure_bind (terms_f most) ?_))
          rw [d2]
          exact Ev.step (fun k => by rw [spec_CircleOf.j0]) (Ev.neg (by decide) (Ev.bind e1 (Ev.pos h1' (Ev.now _))))
        · exact Ev.pure_bind (div_f n) (Ev.pos d1 (Ev.pure_bind ((in_f most 1 60).trans (l1In_f most 1 60)) (Ev.pos d2 (Ev.bind e2 (Ev.some (by rw [h2]; rfl))))))
      · have hlen : 0 < (endOf o t).2.length := by obtain ⟨i, m, hi, _⟩ := hT.at_; omega
        have hle : ((endOf o t).2.length : Int) ≤ 60 := by
          unfold endOf; split
          · simp
          · split
            · simp
            · split
              · simp
              · simp only [List.length_drop]; omega
        obtain ⟨r, e3, hT2⟩ := argmin_ev (endOf o t).2 hlen (by omega)
        have hcr := hT.same hT2
        subst hcr
        have hcl : c.length = (endOf o t).2.length := by
          obtain ⟨i, m, hi, _, _, _, hc⟩ := hT.at_
          rw [hc, List.length_append, List.length_drop, List.length_take]; omega
        have hne : ¬ ((endOf o t).2.length : Int) = 0 := by omega
        refine ⟨c, true, ?_, ?_, by omega⟩
        · refine Ev.pure_bind (num_f n) (Ev.pos d1 (Ev.pure_bind (terms_f most) ?_))
          rw [d2]
          exact Ev.step (fun k => by rw [spec_CircleOf.j0]) (Ev.neg (by decide) (Ev.bind e1 (Ev.neg hne e3)))
        · exact Ev.pure_bind (div_f n) (Ev.pos d1 (Ev.pure_bind ((in_f most 1 60).trans (l1In_f most 1 60)) (Ev.pos d2 (Ev.bind e2 (Ev.some (by rw [decide_eq_true (show (0 : Int) < (c.length : Int) by omega)]))))))
    · have d2 : ¬ decide (1 ≤ most ∧ most ≤ 60) = true := by simpa using c2
      refine ⟨[], false, ?_, Ev.pure_bind (div_f n) (Ev.pos d1 (Ev.pure_bind ((in_f most 1 60).trans (l1In_f most 1 60)) (Ev.neg d2 (Ev.now _)))), by simp⟩
      refine Ev.pure_bind (num_f n) (Ev.pos d1 (Ev.pure_bind (terms_f most) ?_))
      rw [show decide (1 ≤ most ∧ most ≤ 60) = false from decide_eq_false c2]
      exact Ev.step (fun k => by rw [spec_CircleOf.j0]) (Ev.pos (show (!false) = true from rfl) (Ev.now _))
  · have d1 : ¬ decide (1 ≤ n ∧ n ≤ 1000000000) = true := by simpa using c1
    exact ⟨[], false, Ev.pure_bind (num_f n) (Ev.neg d1 (Ev.step (fun k => by rw [spec_CircleOf.j0]) (Ev.pos rfl (Ev.now _)))), Ev.pure_bind (div_f n) (Ev.neg d1 (Ev.now _)), by simp⟩

/-! ### the cursor's draws: always there, and within their bounds -/
theorem u64_wraps (n : Int) (h0 : 0 ≤ n) (h1 : n < 2 ^ 64) : IntKind.u64.wrap n = n := by simp [IntKind.wrap, IntKind.bits, IntKind.signed]; omega
theorem u64_range (n : Int) : 0 ≤ IntKind.u64.wrap n ∧ IntKind.u64.wrap n < 18446744073709551616 := by
  simp [IntKind.wrap, IntKind.bits, IntKind.signed]
  omega
theorem and255 (x : Int) (h0 : 0 ≤ x) (h1 : x < 18446744073709551616) : Go.bits .and .u64 x 255 = x % 256 :=
  Go.bits_mask .u64 64 (by decide) u64_wraps 8 (by decide) x h0 (by simpa using h1)
theorem top255 (n : Int) : 0 ≤ wrap64 (Go.bits .and .u64 (IntKind.u64.wrap n / 1099511627776) 255) ∧ wrap64 (Go.bits .and .u64 (IntKind.u64.wrap n / 1099511627776) 255) ≤ 255 := by
  have h := u64_range n
  generalize IntKind.u64.wrap n = m at h
  rw [and255 _ (by omega) (by omega), w64 (by omega) (by omega)]
  omega
def Bytes (l : List Int) : Prop := ∀ i : Nat, 0 ≤ rd l (i : Int) ∧ rd l (i : Int) ≤ 255
theorem Bytes.of {l : List Int} (h : ∀ x ∈ l, (Lit.int .u8 x).wf = true) : Bytes l := by
  intro i
  have : ∀ x ∈ l, 0 ≤ x ∧ x ≤ 255 := fun x hx => by
    have := h x hx
    simp [Lit.wf] at this
    exact ⟨this.1, this.2⟩
  by_cases c : i < l.length
  · have e : rd l (i : Int) = l[i] := by simp [rd, List.getD_eq_getElem?_getD, c]
    rw [e]; exact this _ (List.getElem_mem c)
  · have e : rd l (i : Int) = 0 := by simp [rd, List.getD_eq_getElem?_getD, c]
    rw [e]; omega
theorem next_ev (l : List Int) (hl : Bytes l) (p s : Int) (hp : 0 ≤ p ∧ p ≤ 4611686018427387904) : ∃ v t, spec_l1Cur_next.f l p s = some (v, p + 1, t) ∧ 0 ≤ v ∧ v ≤ 255 := by
  have hw : wrap64 (p + 1) = p + 1 := w64 (by omega) (by omega)
  unfold spec_l1Cur_next.f
  rw [hw]
  by_cases c : p < (l.length : Int)
  · rw [if_pos c, if_pos hp.1, if_pos (by omega)]
    have hb := hl p.toNat
    rw [show ((p.toNat : Nat) : Int) = p by omega] at hb
    refine ⟨_, _, rfl, ?_⟩
    rw [w64 (by omega) (by omega)]
    exact hb
  · rw [if_neg c, if_neg (by omega)]
    exact ⟨_, _, rfl, top255 _⟩
/-- What a draw below n gives. -/
structure Drew (p n : Int) (v q : Int) : Prop where
  lo : 0 ≤ v
  hi : 1 < n → v < n
  one : n ≤ 1 → v = 0
  from_ : p ≤ q
  to_ : q ≤ p + 2
theorem pick_ev (l : List Int) (hl : Bytes l) (p s n : Int) (hp : 0 ≤ p ∧ p ≤ 4611686018427387000) : ∃ v q t, spec_l1Cur_pick.f l p s n = some (v, q, t) ∧ Drew p n v q := by
  unfold spec_l1Cur_pick.f
  by_cases c : n ≤ 1
  · rw [if_pos c]
    exact ⟨0, p, s, rfl, ⟨by omega, by omega, fun _ => rfl, by omega, by omega⟩⟩
  · rw [if_neg c]
    obtain ⟨v, t, e, h0, h1⟩ := next_ev l hl p s (by omega)
    rw [e, Option.bind_some]
    by_cases c2 : n > 200
    · rw [if_pos c2]
      obtain ⟨v2, t2, e2, g0, g1⟩ := next_ev l hl (p + 1) t (by omega)
      rw [e2, Option.bind_some, if_neg (by omega)]
      refine ⟨_, _, _, rfl, ?_⟩
      rw [w64 (n := v * 256) (by omega) (by omega), w64 (by omega) (by omega)]
      exact ⟨Int.tmod_nonneg _ (by omega), fun _ => Int.tmod_lt_of_pos _ (by omega), fun h => absurd h c, by dsimp only; omega, by dsimp only; omega⟩
    · rw [if_neg c2, if_neg (by omega)]
      exact ⟨_, _, _, rfl, ⟨Int.tmod_nonneg _ h0, fun _ => Int.tmod_lt_of_pos _ (by omega), fun h => absurd h c, by dsimp only; omega, by dsimp only; omega⟩⟩
theorem among_ev (l : List Int) (hl : Bytes l) (p s : Int) (hp : 0 ≤ p ∧ p ≤ 4611686018427387000) (xs : List Int) (h : 0 < xs.length) : ∃ v q t, spec_l1Cur_among.f l p s xs = some (v, q, t) ∧ v ∈ xs ∧ p ≤ q ∧ q ≤ p + 2 := by
  obtain ⟨v, q, t, e, d⟩ := pick_ev l hl p s xs.length hp
  have hlt : v < (xs.length : Int) := by
    by_cases c : 1 < (xs.length : Int)
    · exact d.hi c
    · have := d.one (by omega); omega
  have h0 := d.lo
  unfold spec_l1Cur_among.f
  rw [e, Option.bind_some, if_pos h0, if_pos hlt]
  refine ⟨_, _, _, rfl, ?_, d.from_, d.to_⟩
  have e : rd xs v = xs[v.toNat]'(by omega) := by simp [rd, List.getD_eq_getElem?_getD, show v.toNat < xs.length by omega]
  rw [e]
  exact List.getElem_mem _
theorem one_ev (l : List Int) (hl : Bytes l) (p s n : Int) (hp : 0 ≤ p ∧ p ≤ 4611686018427387000) : ∃ b q t, spec_l1Cur_one.f l p s n = some (b, q, t) ∧ p ≤ q ∧ q ≤ p + 2 := by
  obtain ⟨v, q, t, e, d⟩ := pick_ev l hl p s n hp
  unfold spec_l1Cur_one.f
  rw [e, Option.bind_some]
  exact ⟨_, _, _, rfl, d.from_, d.to_⟩
theorem big_f (a b : List Int) : laws_big.f a b = some (decide (1048576 < (a.length : Int) ∨ 1048576 < (a.length : Int) + (b.length : Int))) := by
  unfold laws_big.f
  by_cases c : (a.length : Int) > 1048576
  · rw [if_pos c, decide_eq_true (.inl c)]
  · rw [if_neg c, w64 (by omega) (by omega)]
    congr 1
    apply decide_eq_decide.2
    omega

/-! ### draws of the chapter on sums of divisors -/
theorem divided_ev (l : List Int) (hl : Bytes l) (p s : Int) (hp : 0 ≤ p ∧ p ≤ 4611686018427386000) : ∃ v q t, Ev (fun k => spec_l1Cur_divided.f k l p s) (v, q, t) ∧ p ≤ q ∧ q ≤ p + 100 := by
  have key : ∀ (d : Nat) (x q t : Int), 0 ≤ q → q + 2 * d ≤ 4611686018427387000 → d ≤ 8 → ∃ v q' t', Ev (fun k => spec_l1Cur_divided.l0 k x (d : Int) l q t) (v, q', t') ∧ q ≤ q' ∧ q' ≤ q + 2 * d := by
    intro d
    induction d with
    | zero => intro x q t h0 h1 h2; exact ⟨x, q, t, Ev.step (fun k => by rw [spec_l1Cur_divided.l0]) (Ev.neg (by omega) (Ev.now _)), by omega, by omega⟩
    | succ d ih =>
      intro x q t h0 h1 h2
      obtain ⟨v, q1, t1, e1, _, r1, r2⟩ := among_ev l hl q t (by omega) ([2, 2, 2, 3, 3, 5, 7, 11, 13] : List Int) (by decide)
      have hw : wrap64 (((d + 1 : Nat) : Int) - 1) = (d : Int) := by rw [w64 (by omega) (by omega)]; omega
      obtain ⟨v', q2, t2, e2, r3, r4⟩ := ih (wrap64 (x * v)) q1 t1 (by omega) (by omega) (by omega)
      refine ⟨v', q2, t2, Ev.step (fun k => by rw [spec_l1Cur_divided.l0]) (Ev.pos (by omega) (Ev.pure_bind e1 ?_)), by omega, by omega⟩
      rw [hw]; exact e2
  obtain ⟨v, q, t, e, d⟩ := pick_ev l hl p s 8 (by omega)
  have hq := d.from_
  have hq2 := d.to_
  have hv := d.lo
  have hv2 := d.hi (by omega)
  by_cases c0 : v = 0
  · obtain ⟨v1, q1, t1, e1, _, r1, r2⟩ := among_ev l hl q t (by omega) ([(-1), 0, 1, 1000000000, 1000000001, 4611686018427387904] : List Int) (by decide)
    exact ⟨v1, q1, t1, Ev.pure_bind e (Ev.pos c0 (Ev.pure_bind e1 (Ev.now _))), by omega, by omega⟩
  by_cases c1 : v = 1
  · obtain ⟨v1, q1, t1, e1, _, r1, r2⟩ := among_ev l hl q t (by omega) ([6, 28, 496, 8128, 220, 284, 1184, 1210, 12496, 14316, 2620, 276, 562] : List Int) (by decide)
    exact ⟨v1, q1, t1, Ev.pure_bind e (Ev.neg c0 (Ev.pos c1 (Ev.pure_bind e1 (Ev.now _)))), by omega, by omega⟩
  by_cases c2 : v = 2
  · obtain ⟨v1, q1, t1, e1, d1⟩ := pick_ev l hl q t 256 (by omega)
    have r1 := d1.from_
    have r2 := d1.to_
    obtain ⟨v2, q2, t2, e2, d2⟩ := pick_ev l hl q1 t1 256 (by omega)
    have r3 := d2.from_
    have r4 := d2.to_
    exact ⟨_, q2, t2, Ev.pure_bind e (Ev.neg c0 (Ev.neg c1 (Ev.pos c2 (Ev.pure_bind e1 (Ev.pure_bind e2 (Ev.now _)))))), by omega, by omega⟩
  · obtain ⟨v1, q1, t1, e1, d1⟩ := pick_ev l hl q t 8 (by omega)
    have r1 := d1.from_
    have r2 := d1.to_
    have r5 := d1.lo
    have r6 := d1.hi (by omega)
    obtain ⟨n, rfl⟩ : ∃ n : Nat, v1 = (n : Int) := ⟨v1.toNat, by omega⟩
    obtain ⟨v2, q2, t2, e2, r3, r4⟩ := key n 1 q1 t1 (by omega) (by omega) (by omega)
    exact ⟨v2, q2, t2, Ev.pure_bind e (Ev.neg c0 (Ev.neg c1 (Ev.neg c2 (Ev.pure_bind e1 e2)))), by omega, by omega⟩
theorem drawRun_ev (l : List Int) (hl : Bytes l) : ∃ n m, Ev (fun k => spec_DrawEndOfRun.f k l) (n, m) := by
  obtain ⟨v, q, t, e, r1, r2⟩ := divided_ev l hl 0 0 (by omega)
  obtain ⟨b, q1, t1, e1, r3, r4⟩ := one_ev l hl q t 10 (by omega)
  cases b with
  | true =>
    obtain ⟨v2, q2, t2, e2, _⟩ := among_ev l hl q1 t1 (by omega) ([0, 1, 60, 61] : List Int) (by decide)
    exact ⟨v, v2, Ev.bind (a := (v, v2)) (Ev.bind e (Ev.pure_bind e1 (Ev.pos rfl (Ev.pure_bind e2 (Ev.now _))))) (Ev.now _)⟩
  | false =>
    obtain ⟨v2, q2, t2, e2, _⟩ := pick_ev l hl q1 t1 30 (by omega)
    exact ⟨v, wrap64 (1 + v2), Ev.bind (a := (v, wrap64 (1 + v2))) (Ev.bind e (Ev.pure_bind e1 (Ev.neg (by simp) (Ev.pure_bind e2 (Ev.now _))))) (Ev.now _)⟩
theorem drawPartner_ev (l : List Int) (hl : Bytes l) : ∃ n, Ev (fun k => spec_DrawPartnerOf.f k l) n := by
  obtain ⟨v, q, t, e, r1, r2⟩ := divided_ev l hl 0 0 (by omega)
  exact ⟨v, Ev.bind (a := v) (Ev.bind e (Ev.now _)) (Ev.now _)⟩

/-! ### the law on proper runs -/
theorem qSame_ev (xs : List Int) (hl : (xs.length : Int) ≤ 4611686018427387904) : Ev (fun k => laws_qSame.f k xs xs) true := by
  have key : ∀ (d i : Nat), xs.length = i + d → Ev (fun k => laws_qSame.l0 k xs xs (xs.length : Int) (i : Int)) true := by
    intro d
    induction d with
    | zero => intro i h; exact Ev.step (fun k => by rw [laws_qSame.l0]) (Ev.neg (by omega) (Ev.now _))
    | succ d ih =>
      intro i h
      have hw : wrap64 ((i : Int) + 1) = ((i + 1 : Nat) : Int) := by rw [w64 (by omega) (by omega)]; omega
      refine Ev.step (fun k => by rw [laws_qSame.l0]) (Ev.pos (by omega) (Ev.pos (by omega) (Ev.pos (by omega) (Ev.pos (by omega) (Ev.pos rfl ?_)))))
      rw [hw]
      exact ih (i + 1) (by omega)
  exact Ev.pos rfl (key xs.length 0 (by omega))
theorem properSum_ev (x : Int) (h : 1 ≤ x ∧ x ≤ 1000000000) : Ev (fun k => impl_ProperSum.f k x) (pr x, true) :=
  Ev.pure_bind (div_f x) (Ev.pos (decide_eq_true h) (Ev.bind (pr_ev x h.1 h.2).2.1 (Ev.now _)))
noncomputable def partnerOf (n : Int) : Int := if pr n = n then 0 else if 1 ≤ pr n ∧ pr n ≤ 1000000000 then (if pr (pr n) = n then pr n else 0) else 0
theorem partner_ev (n : Int) (h1 : 1 ≤ n) (h2 : n ≤ 1000000000) : Ev (fun k => spec_dvPartner.f k n) (partnerOf n) ∧ Ev (fun k => impl_partner.f k n) (partnerOf n) := by
  obtain ⟨e1, e2, _⟩ := pr_ev n h1 h2
  unfold partnerOf
  by_cases c : pr n = n
  · rw [if_pos c]
    exact ⟨Ev.bind e1 (Ev.pos c (Ev.now _)), Ev.bind e2 (Ev.pos c (Ev.now _))⟩
  · rw [if_neg c]
    by_cases d : 1 ≤ pr n ∧ pr n ≤ 1000000000
    · rw [if_pos d]
      have d1 : decide (1 ≤ pr n ∧ pr n ≤ 1000000000) = true := decide_eq_true d
      obtain ⟨e3, e4, _⟩ := pr_ev (pr n) d.1 d.2
      by_cases c2 : pr (pr n) = n
      · rw [if_pos c2]
        exact ⟨Ev.bind e1 (Ev.neg c (Ev.pure_bind (num_f _) (Ev.pos d1 (Ev.bind e3 (Ev.pos c2 (Ev.now _)))))), Ev.bind e2 (Ev.neg c (Ev.pure_bind (div_f _) (Ev.pos d1 (Ev.bind e4 (Ev.pos c2 (Ev.now _))))))⟩
      · rw [if_neg c2]
        exact ⟨Ev.bind e1 (Ev.neg c (Ev.pure_bind (num_f _) (Ev.pos d1 (Ev.bind e3 (Ev.neg c2 (Ev.now _)))))), Ev.bind e2 (Ev.neg c (Ev.pure_bind (div_f _) (Ev.pos d1 (Ev.bind e4 (Ev.neg c2 (Ev.now _))))))⟩
    · rw [if_neg d]
      have d1 : ¬ decide (1 ≤ pr n ∧ pr n ≤ 1000000000) = true := by simpa using d
      exact ⟨Ev.bind e1 (Ev.neg c (Ev.pure_bind (num_f _) (Ev.neg d1 (Ev.now _)))), Ev.bind e2 (Ev.neg c (Ev.pure_bind (div_f _) (Ev.neg d1 (Ev.now _))))⟩
noncomputable def pf (n : Int) : Int × Bool := if 1 ≤ n ∧ n ≤ 1000000000 then (partnerOf n, decide (partnerOf n > 0)) else (0, false)
theorem pf_ev (n : Int) : Ev (fun k => impl_PartnerOf.f k n) (pf n) ∧ Ev (fun k => spec_PartnerOf.f k n) (pf n) := by
  unfold pf
  by_cases h : 1 ≤ n ∧ n ≤ 1000000000
  · rw [if_pos h]
    obtain ⟨e1, e2⟩ := partner_ev n h.1 h.2
    exact ⟨Ev.pure_bind (div_f n) (Ev.pos (decide_eq_true h) (Ev.bind e2 (Ev.now _))), Ev.pure_bind (num_f n) (Ev.pos (decide_eq_true h) (Ev.bind e1 (Ev.now _)))⟩
  · rw [if_neg h]
    have d1 : ¬ decide (1 ≤ n ∧ n ≤ 1000000000) = true := by simpa using h
    exact ⟨Ev.pure_bind (div_f n) (Ev.neg d1 (Ev.now _)), Ev.pure_bind (num_f n) (Ev.neg d1 (Ev.now _))⟩
theorem pf_true {n : Int} (h : (pf n).2 = true) : (1 ≤ n ∧ n ≤ 1000000000) ∧ (1 ≤ (pf n).1 ∧ (pf n).1 ≤ 1000000000) ∧ (pf n).1 ≠ n ∧ (pf n).1 = pr n ∧ pr (pr n) = n := by
  unfold pf at h ⊢
  by_cases c : 1 ≤ n ∧ n ≤ 1000000000
  · rw [if_pos c] at h ⊢
    have h : partnerOf n > 0 := of_decide_eq_true h
    show _ ∧ (1 ≤ partnerOf n ∧ partnerOf n ≤ 1000000000) ∧ partnerOf n ≠ n ∧ partnerOf n = pr n ∧ _
    unfold partnerOf at h ⊢
    by_cases c1 : pr n = n
    · rw [if_pos c1] at h; omega
    · rw [if_neg c1] at h ⊢
      by_cases c2 : 1 ≤ pr n ∧ pr n ≤ 1000000000
      · rw [if_pos c2] at h ⊢
        by_cases c3 : pr (pr n) = n
        · rw [if_pos c3]; exact ⟨c, c2, c1, rfl, c3⟩
        · rw [if_neg c3] at h; omega
      · rw [if_neg c2] at h; omega
  · rw [if_neg c] at h; cases h
theorem pf_pair {a b : Int} (ha : 1 ≤ a ∧ a ≤ 1000000000) (hb : 1 ≤ b ∧ b ≤ 1000000000) (h1 : pr a = b) (h2 : pr b = a) (hne : b ≠ a) : pf a = (b, true) := by
  have h : partnerOf a = b := by
    unfold partnerOf
    rw [h1, if_neg hne, if_pos hb, if_pos h2]
  unfold pf
  rw [if_pos ha, h, decide_eq_true (show b > 0 by omega)]
theorem pf_self {a : Int} (h : pr a = a) : (pf a).2 = false := by
  cases c : (pf a).2 with
  | false => rfl
  | true => have := pf_true c; rw [h] at this; exact absurd this.2.2.2.1 this.2.2.1
theorem pf_far {a : Int} (h : pr (pr a) ≠ a) : (pf a).2 = false := by
  cases c : (pf a).2 with
  | false => rfl
  | true => exact absurd (pf_true c).2.2.2.2 h
theorem j6_ev (code : List Int) (hl : Bytes code) : Ev (fun k => laws_FnProperRuns.j5 k code) true := by
  obtain ⟨m, e⟩ := drawPartner_ev code hl
  obtain ⟨e1, e2⟩ := pf_ev m
  have q1 : ¬ ((pf m).2 != (pf m).2) = true := by simp
  refine Ev.step (fun k => by rw [laws_FnProperRuns.j5]) (Ev.bind e (Ev.bind e1 (Ev.bind e2 (Ev.neg q1 (Ev.pos rfl ?_)))))
  cases c : (pf m).2 with
  | false => exact Ev.neg (by simp) (Ev.now _)
  | true =>
    obtain ⟨h1, h2, h3, h4, h5⟩ := pf_true c
    have e3 := (pf_ev (pf m).1).1
    have hp : pf (pf m).1 = (m, true) := pf_pair h2 h1 (by rw [h4]; exact h5) h4.symm (fun h => h3 h.symm)
    rw [hp] at e3
    exact Ev.pos rfl (Ev.bind e3 (Ev.pos rfl (Ev.pos rfl (Ev.some (by simpa using h3)))))
/-! #### circles -/
theorem rd_q (xs : List Int) (i : Nat) : rd xs (i : Int) = (xs[i]?).getD 0 := by simp [rd, List.getD_eq_getElem?_getD]
structure Circ (c : List Int) : Prop where
  pos : 0 < c.length
  len : (c.length : Int) ≤ 60
  good : ∀ i < c.length, 1 ≤ rd c (i : Int) ∧ rd c (i : Int) ≤ 1000000000
  nodup : c.Nodup
  next : ∀ i < c.length, pr (rd c (i : Int)) = rd c (((i + 1) % c.length : Nat) : Int)
theorem rd_mem {xs : List Int} {i : Nat} (h : i < xs.length) : rd xs (i : Int) ∈ xs := by
  rw [rd_get h]; exact List.getElem_mem h
theorem rd_inj {xs : List Int} (hn : xs.Nodup) {i j : Nat} (hi : i < xs.length) (hj : j < xs.length) (h : i < j) : rd xs (i : Int) ≠ rd xs (j : Int) := by
  rw [rd_get hi, rd_get hj]
  exact List.pairwise_iff_getElem.1 hn i j hi hj h
theorem Run.circ {n most : Int} {o : List Int} {t : Int} (R : Run n most o t) (hm : most ≤ 60) (h : ¬ ix o t < 0) : Circ (o.drop (ix o t).toNat) ∧ ((o.drop (ix o t).toNat).length : Int) = (o.length : Int) - ix o t := by
  have hl := R.len
  have hin : t ∈ o := Classical.byContradiction fun hn => h (by rw [ix_none (fun x hx (e : x = t) => hn (by rw [← e]; exact hx))]; omega)
  obtain ⟨i, hi, hil, hie, _⟩ := ix_mem hin
  rw [hi, Int.toNat_natCast]
  have hdl : (o.drop i).length = o.length - i := by rw [List.length_drop]
  have hrd : ∀ j, rd (o.drop i) ((j : Nat) : Int) = rd o ((i + j : Nat) : Int) := fun j => by rw [rd_q, rd_q, List.getElem?_drop]
  refine ⟨⟨by omega, by omega, fun j hj => ?_, R.nodup.sublist (List.drop_sublist _ _), fun j hj => ?_⟩, by omega⟩
  · rw [hrd]; exact R.good _ (rd_mem (by omega))
  · rw [hrd, hrd]
    by_cases c : j + 1 < (o.drop i).length
    · rw [Nat.mod_eq_of_lt c, rd_get (by omega), rd_get (by omega), ← R.chain (i + j) (by omega)]
      rfl
    · have hj1 : j + 1 = (o.drop i).length := by omega
      rw [hj1, Nat.mod_self, Nat.add_zero, rd_get hil, hie, R.last, rd_get (by omega), List.getLast_eq_getElem]
      congr 2
      omega
theorem Turned.circ {l c : List Int} (T : Turned l c) (C : Circ l) : Circ c ∧ c.length = l.length ∧ ∀ i < c.length, rd c 0 ≤ rd c (i : Int) := by
  obtain ⟨i, m, hi, hm, h1, h2, rfl⟩ := T.at_
  have hlen : (l.drop i ++ l.take i).length = l.length := by rw [List.length_append, List.length_drop, List.length_take]; omega
  have hrd : ∀ k < l.length, rd (l.drop i ++ l.take i) ((k : Nat) : Int) = rd l (((i + k) % l.length : Nat) : Int) := by
    intro k hk
    rw [rd_q, rd_q]
    congr 1
    by_cases c : i + k < l.length
    · rw [Nat.mod_eq_of_lt c, List.getElem?_append_left (by rw [List.length_drop]; omega), List.getElem?_drop]
    · have hmod : (i + k) % l.length = i + k - l.length := by rw [Nat.mod_eq_sub_mod (by omega), Nat.mod_eq_of_lt (by omega)]
      rw [hmod, List.getElem?_append_right (by rw [List.length_drop]; omega), List.length_drop, List.getElem?_take_of_lt (by omega)]
      congr 1
      omega
  have hmod : ∀ k, (i + k) % l.length < l.length := fun k => Nat.mod_lt _ (by omega)
  have h0 : rd (l.drop i ++ l.take i) 0 = m := by
    have := hrd 0 (by omega)
    rw [Nat.add_zero, Nat.mod_eq_of_lt hi] at this
    rw [show (0 : Int) = ((0 : Nat) : Int) from rfl, this, rd_q, hm]; rfl
  refine ⟨⟨by omega, by rw [hlen]; exact C.len, fun k hk => ?_, ?_, fun k hk => ?_⟩, hlen, fun k hk => ?_⟩
  · rw [hrd k (by omega)]; exact C.good _ (hmod k)
  · rw [List.Perm.nodup_iff List.perm_append_comm, List.take_append_drop]; exact C.nodup
  · rw [hlen, hrd k (by omega), hrd _ (Nat.mod_lt _ (by omega)), C.next _ (hmod k), Nat.mod_add_mod, Nat.add_mod_mod]
    rfl
  · rw [h0, hrd k (by omega)]; exact h1 _ (rd_mem (hmod k))
theorem j5_ev (code c : List Int) (hl : Bytes code) (en : Int) (C : Circ c) (h1 : en = 1 ↔ (c.length : Int) = 1) (h2 : en = 2 ↔ (c.length : Int) = 2) (b : Bool) (hb : b = false) : Ev (fun k => laws_FnProperRuns.j4 k code en c b) true := by
  subst hb
  have q1 : ¬ ((en == 1) != ((c.length : Int) == 1)) = true := by
    have : (en == 1) = ((c.length : Int) == 1) := by rw [Bool.eq_iff_iff]; simpa using h1
    rw [this]; simp
  have q2 : ¬ ((en == 2) != ((c.length : Int) == 2)) = true := by
    have : (en == 2) = ((c.length : Int) == 2) := by rw [Bool.eq_iff_iff]; simpa using h2
    rw [this]; simp
  exact Ev.step (fun k => by rw [laws_FnProperRuns.j4]) (Ev.neg (by simp) (Ev.neg q1 (Ev.neg q2 (j6_ev code hl))))
theorem l1_ev (code c : List Int) (hl : Bytes code) (en : Int) (C : Circ c) (h1 : en = 1 ↔ (c.length : Int) = 1) (h2 : en = 2 ↔ (c.length : Int) = 2) (hmin : ∀ i < c.length, rd c 0 ≤ rd c (i : Int)) :
    ∀ (d i : Nat), i + d = c.length → Ev (fun k => laws_FnProperRuns.l1 k code en c c (c.length : Int) (i : Int)) true := by
  have hp := C.pos
  have hle := C.len
  have hpi : (0 : Int) < (c.length : Int) := by omega
  intro d
  induction d with
  | zero =>
    intro i hi
    have e := (pf_ev (rd c 0)).1
    have g0 := C.good 0 hp
    have n0 := C.next 0 hp
    have s0 : ((0 : Nat) : Int) = 0 := rfl
    rw [s0] at g0 n0
    refine Ev.step (fun k => by rw [laws_FnProperRuns.l1]) (Ev.neg (by omega) (Ev.pos hpi (Ev.bind e ?_)))
    by_cases c2 : c.length = 2
    · have g1 := C.good 1 (by omega)
      have n1 := C.next 1 (by omega)
      have hne := rd_inj C.nodup (i := 0) (j := 1) (by omega) (by omega) (by omega)
      rw [show (0 + 1) % c.length = 1 by rw [c2]] at n0
      rw [show (1 + 1) % c.length = 0 by rw [c2]] at n1
      have hpf := pf_pair g0 g1 n0 n1 (fun h => hne h.symm)
      have s1 : ((1 : Nat) : Int) = 1 := rfl
      rw [s1] at hpf
      rw [hpf]
      have q : ¬ (((rd c 1, true) : Int × Bool).2 != ((c.length : Int) == 2)) = true := by simp; omega
      refine Ev.neg q (Ev.pos rfl (Ev.pos (by omega) (j5_ev code c hl en C h1 h2 _ (by simp))))
    · have hf : (pf (rd c 0)).2 = false := by
        by_cases c1 : c.length = 1
        · rw [show (0 + 1) % c.length = 0 by rw [c1]] at n0
          exact pf_self n0
        · have n1 := C.next 1 (by omega)
          rw [Nat.mod_eq_of_lt (by omega)] at n0 n1
          refine pf_far ?_
          rw [n0, n1]
          exact (rd_inj C.nodup (i := 0) (j := 2) (by omega) (by omega) (by omega)).symm
      have q : ¬ ((pf (rd c 0)).2 != ((c.length : Int) == 2)) = true := by rw [hf]; simp; omega
      exact Ev.neg q (Ev.neg (by rw [hf]; simp) (j5_ev code c hl en C h1 h2 _ rfl))
  | succ d ih =>
    intro i hi
    have hw : wrap64 ((i : Int) + 1) = ((i + 1 : Nat) : Int) := by rw [w64 (by omega) (by omega)]; omega
    have hm : Int.tmod ((i + 1 : Nat) : Int) (c.length : Int) = (((i + 1) % c.length : Nat) : Int) := (Int.ofNat_tmod _ _).symm
    have hlt := Nat.mod_lt (i + 1) hp
    have hne0 : ¬ (c.length : Int) = 0 := by omega
    refine Ev.step (fun k => by rw [laws_FnProperRuns.l1]) (Ev.pos (by omega) (Ev.pos (by omega) (Ev.pos (by omega) (Ev.bind (properSum_ev _ (C.good i (by omega))) (Ev.pos rfl (Ev.neg hne0 ?_))))))
    rw [hw, hm]
    have hz0 : (0 : Int) ≤ (((i + 1) % c.length : Nat) : Int) := Int.natCast_nonneg _
    have hz1 : (((i + 1) % c.length : Nat) : Int) < (c.length : Int) := Int.ofNat_lt.2 hlt
    have hmn := hmin i (by omega)
    exact Ev.pos hz0 (Ev.pos hz1 (Ev.pos (C.next i (by omega)) (Ev.pos hpi (Ev.neg (by omega) (ih (i + 1) (by omega))))))
/-! #### runs -/
theorem l0_ev (code o c : List Int) (en t n most : Int) (three : Bool) (R : Run n most o t) (hm : most ≤ 60) (h0 : en = 0 ↔ t = 0) (h4 : en = 4 ↔ t > 1000000000)
    (hj : Ev (fun k => laws_FnProperRuns.j2 k code en c three) true) :
    ∀ (d i : Nat), i + d = o.length → 1 ≤ i → Ev (fun k => laws_FnProperRuns.l0 k code en o c three (i : Int)) true := by
  have hol := R.len
  have hop := List.length_pos_iff.2 R.ne
  intro d
  induction d with
  | zero =>
    intro i hi hi1
    have hw : wrap64 ((o.length : Int) - 1) = ((o.length - 1 : Nat) : Int) := by rw [w64 (by omega) (by omega)]; omega
    have hlast : rd o ((o.length - 1 : Nat) : Int) = o.getLast R.ne := by rw [rd_get (by omega), List.getLast_eq_getElem]
    have e := properSum_ev (o.getLast R.ne) (R.good _ (List.getLast_mem R.ne))
    rw [← R.last] at e
    have q0 : ¬ ((en == 0) != (t == 0)) = true := by
      have : (en == 0) = (t == 0) := by rw [Bool.eq_iff_iff]; simpa using h0
      rw [this]; simp
    have q4 : ¬ ((en == 4) != (decide (t > 1000000000))) = true := by
      have : (en == 4) = decide (t > 1000000000) := by rw [Bool.eq_iff_iff]; simpa using h4
      rw [this]; simp
    refine Ev.step (fun k => by rw [laws_FnProperRuns.l0]) (Ev.neg (by omega) ?_)
    rw [hw, hlast]
    exact Ev.pos (by omega) (Ev.pos (by omega) (Ev.bind e (Ev.pos rfl (Ev.neg q0 (Ev.neg q4 hj)))))
  | succ d ih =>
    intro i hi hi1
    have hw : wrap64 ((i : Int) - 1) = ((i - 1 : Nat) : Int) := by rw [w64 (by omega) (by omega)]; omega
    have hw2 : wrap64 ((i : Int) + 1) = ((i + 1 : Nat) : Int) := by rw [w64 (by omega) (by omega)]; omega
    have hc : pr (rd o ((i - 1 : Nat) : Int)) = rd o (i : Int) := by
      have := R.chain (i - 1) (by omega)
      rw [rd_get (by omega), rd_get (by omega), ← this]
      congr 1
      omega
    refine Ev.step (fun k => by rw [laws_FnProperRuns.l0]) (Ev.pos (by omega) ?_)
    rw [hw, hw2]
    exact Ev.pos (by omega) (Ev.pos (by omega) (Ev.bind (properSum_ev _ (R.good _ (rd_mem (by omega)))) (Ev.pos rfl (Ev.pos (by omega) (Ev.pos hc (ih (i + 1) (by omega) (by omega)))))))
theorem circles_ev (n most : Int) (c1 : 1 ≤ n ∧ n ≤ 1000000000) (c2 : 1 ≤ most ∧ most ≤ 60) : ∃ o t, Run n most o t ∧
    Ev (fun k => spec_EndOfRun.f k n most) ((endOf o t).1, true) ∧ Ev (fun k => impl_EndOfRun.f k n most) ((endOf o t).1, true) ∧
    Ev (fun k => spec_ProperRun.f k n most) (o, true) ∧ Ev (fun k => impl_ProperRun.f k n most) (o, true) ∧
    (((endOf o t).2 = [] ∧ Ev (fun k => spec_CircleOf.f k n most) ([], false) ∧ Ev (fun k => impl_CircleOf.f k n most) ([], false)) ∨
     ∃ c, Turned (endOf o t).2 c ∧ Ev (fun k => spec_CircleOf.f k n most) (c, true) ∧ Ev (fun k => impl_CircleOf.f k n most) (c, true)) := by
  have d1 : decide (1 ≤ n ∧ n ≤ 1000000000) = true := decide_eq_true c1
  have d2 : decide (1 ≤ most ∧ most ≤ 60) = true := decide_eq_true c2
  obtain ⟨o, t, c, R, _, e1, e2, hT, f1, f2⟩ := ends_run n most c1 c2
  have hin := (in_f most 1 60).trans (l1In_f most 1 60)
  have hol : (o.length : Int) ≤ 60 := by have := R.len; omega
  refine ⟨o, t, R, Ev.pure_bind (num_f n) (Ev.pos d1 (Ev.pure_bind (terms_f most) (Ev.pos d2 (Ev.bind e1 (Ev.now _))))), Ev.pure_bind (div_f n) (Ev.pos d1 (Ev.pure_bind hin (Ev.pos d2 (Ev.bind e2 (Ev.now _))))), Ev.pure_bind (num_f n) (Ev.pos d1 (Ev.pure_bind (terms_f most) (Ev.pos d2 (Ev.bind f1 (Ev.now _))))), Ev.pure_bind (div_f n) (Ev.pos d1 (Ev.pure_bind hin (Ev.pos d2 (Ev.bind f2 (Ev.now _))))), ?_⟩
  rcases hT with ⟨h1, h2⟩ | hT
  · refine .inl ⟨h1, ?_, ?_⟩
    · have h1' : ((endOf o t).2.length : Int) = 0 := by rw [h1]; rfl
      refine Ev.pure_bind (num_f n) (Ev.pos d1 (Ev.pure_bind (terms_f most) ?_))
      rw [d2]
      exact Ev.step (fun k => by rw [spec_CircleOf.j0]) (Ev.neg (by decide) (Ev.bind e1 (Ev.pos h1' (Ev.now _))))
    · exact Ev.pure_bind (div_f n) (Ev.pos d1 (Ev.pure_bind hin (Ev.pos d2 (Ev.bind e2 (Ev.some (by rw [h2]; rfl))))))
  · have hlen : 0 < (endOf o t).2.length := by obtain ⟨i, m, hi, _⟩ := hT.at_; omega
    have hle : ((endOf o t).2.length : Int) ≤ 60 := by
      unfold endOf; split
      · simp
      · split
        · simp
        · split
          · simp
          · simp only [List.length_drop]; omega
    obtain ⟨r, e3, hT2⟩ := argmin_ev (endOf o t).2 hlen (by omega)
    have hcr := hT.same hT2
    subst hcr
    have hcl : c.length = (endOf o t).2.length := by
      obtain ⟨i, m, hi, _, _, _, hc⟩ := hT.at_
      rw [hc, List.length_append, List.length_drop, List.length_take]; omega
    have hne : ¬ ((endOf o t).2.length : Int) = 0 := by omega
    refine .inr ⟨c, hT, ?_, ?_⟩
    · refine Ev.pure_bind (num_f n) (Ev.pos d1 (Ev.pure_bind (terms_f most) ?_))
      rw [d2]
      exact Ev.step (fun k => by rw [spec_CircleOf.j0]) (Ev.neg (by decide) (Ev.bind e1 (Ev.neg hne e3)))
    · exact Ev.pure_bind (div_f n) (Ev.pos d1 (Ev.pure_bind hin (Ev.pos d2 (Ev.bind e2 (Ev.some (by rw [decide_eq_true (show (0 : Int) < (c.length : Int) by omega)]))))))
theorem none_ev (n most : Int) (h : ¬ ((1 ≤ n ∧ n ≤ 1000000000) ∧ (1 ≤ most ∧ most ≤ 60))) :
    Ev (fun k => spec_EndOfRun.f k n most) (0, false) ∧ Ev (fun k => impl_EndOfRun.f k n most) (0, false) ∧
    Ev (fun k => spec_ProperRun.f k n most) ([], false) ∧ Ev (fun k => impl_ProperRun.f k n most) ([], false) ∧
    Ev (fun k => spec_CircleOf.f k n most) ([], false) ∧ Ev (fun k => impl_CircleOf.f k n most) ([], false) := by
  have hin := (in_f most 1 60).trans (l1In_f most 1 60)
  by_cases c1 : 1 ≤ n ∧ n ≤ 1000000000
  · have d1 : decide (1 ≤ n ∧ n ≤ 1000000000) = true := decide_eq_true c1
    have c2 : ¬ (1 ≤ most ∧ most ≤ 60) := fun c2 => h ⟨c1, c2⟩
    have d2 : ¬ decide (1 ≤ most ∧ most ≤ 60) = true := by simpa using c2
    refine ⟨Ev.pure_bind (num_f n) (Ev.pos d1 (Ev.pure_bind (terms_f most) (Ev.neg d2 (Ev.now _)))), Ev.pure_bind (div_f n) (Ev.pos d1 (Ev.pure_bind hin (Ev.neg d2 (Ev.now _)))), Ev.pure_bind (num_f n) (Ev.pos d1 (Ev.pure_bind (terms_f most) (Ev.neg d2 (Ev.now _)))), Ev.pure_bind (div_f n) (Ev.pos d1 (Ev.pure_bind hin (Ev.neg d2 (Ev.now _)))), ?_, Ev.pure_bind (div_f n) (Ev.pos d1 (Ev.pure_bind hin (Ev.neg d2 (Ev.now _))))⟩
    refine Ev.pure_bind (num_f n) (Ev.pos d1 (Ev.pure_bind (terms_f most) ?_))
    rw [show decide (1 ≤ most ∧ most ≤ 60) = false from decide_eq_false c2]
    exact Ev.step (fun k => by rw [spec_CircleOf.j0]) (Ev.pos (show (!false) = true from rfl) (Ev.now _))
  · have d1 : ¬ decide (1 ≤ n ∧ n ≤ 1000000000) = true := by simpa using c1
    exact ⟨Ev.pure_bind (num_f n) (Ev.neg d1 (Ev.now _)), Ev.pure_bind (div_f n) (Ev.neg d1 (Ev.now _)), Ev.pure_bind (num_f n) (Ev.neg d1 (Ev.now _)), Ev.pure_bind (div_f n) (Ev.neg d1 (Ev.now _)), Ev.pure_bind (num_f n) (Ev.neg d1 (Ev.step (fun k => by rw [spec_CircleOf.j0]) (Ev.pos rfl (Ev.now _)))), Ev.pure_bind (div_f n) (Ev.neg d1 (Ev.now _))⟩
theorem FnProperRuns : laws_FnProperRuns.Pure := by
  intro l0 l1 _ _ hb0 _ _ hb1
  have hl0 := Bytes.of hb0
  have hl1 := Bytes.of hb1
  suffices Ev (fun k => laws_FnProperRuns.f k l0 l1) true from this.rounds
  by_cases cb : 1048576 < (l0.length : Int) ∨ 1048576 < (l0.length : Int) + (l1.length : Int)
  · exact Ev.pure_bind (big_f l0 l1) (Ev.pos (decide_eq_true cb) (Ev.now _))
  refine Ev.pure_bind (big_f l0 l1) (Ev.neg (by simpa using cb) ?_)
  obtain ⟨n, most, e0⟩ := drawRun_ev l0 hl0
  refine Ev.bind e0 ?_
  have ff : ¬ ((false != false) = true) := by decide
  have tt : ¬ ((true != true) = true) := by decide
  by_cases h : (1 ≤ n ∧ n ≤ 1000000000) ∧ (1 ≤ most ∧ most ≤ 60)
  · obtain ⟨o, t, R, e1, e2, e3, e4, hC⟩ := circles_ev n most h.1 h.2
    have hol : (o.length : Int) ≤ 60 := by have := R.len; omega
    have T := R.t0
    have hop := List.length_pos_iff.2 R.ne
    have hro : rd o 0 = n := by have := R.first; rw [show (0 : Int) = ((0 : Nat) : Int) from rfl, rd_q, this]; rfl
    refine Ev.bind e2 (Ev.bind e1 (Ev.bind e4 (Ev.bind e3 ?_)))
    have hen : ((endOf o t).1 = 0 ↔ t = 0) ∧ ((endOf o t).1 = 4 ↔ t > 1000000000) ∧ ((endOf o t).2 = [] → ¬ (1 ≤ (endOf o t).1 ∧ (endOf o t).1 ≤ 3)) ∧ ((endOf o t).2 ≠ [] → ¬ ix o t < 0 ∧ (endOf o t).2 = o.drop (ix o t).toNat ∧ (endOf o t).1 = mn ((o.length : Int) - ix o t) 3 ∧ 1 ≤ (endOf o t).1 ∧ (endOf o t).1 ≤ 3) := by
      unfold endOf
      by_cases c0 : t = 0
      · rw [if_pos c0]; exact ⟨by simp [c0], by simp [c0], by simp, by simp⟩
      · rw [if_neg c0]
        by_cases c1 : t > 1000000000
        · rw [if_pos c1]; exact ⟨by simp [c0], by simp; omega, by simp, by simp⟩
        · rw [if_neg c1]
          by_cases c2 : ix o t < 0
          · rw [if_pos c2]; exact ⟨by simp [c0], by simp; omega, by simp, by simp⟩
          · rw [if_neg c2]
            have hr : ix o t < o.length := by rcases @ix_range o t with h | h <;> omega
            have hm := mn_le ((o.length : Int) - ix o t) 3
            refine ⟨⟨fun h => ?_, fun h => absurd h c0⟩, ⟨fun h => ?_, fun h => absurd h c1⟩, fun h => ?_, fun _ => ⟨c2, rfl, rfl, ?_⟩⟩
            · have h : mn ((o.length : Int) - ix o t) 3 = 0 := h
              omega
            · have h : mn ((o.length : Int) - ix o t) 3 = 4 := h
              omega
            · have := congrArg List.length h
              simp only [List.length_drop, List.length_nil] at this
              omega
            · show 1 ≤ mn ((o.length : Int) - ix o t) 3 ∧ mn ((o.length : Int) - ix o t) 3 ≤ 3
              omega
    have hq := qSame_ev o (by omega)
    have hopi : (0 : Int) < (o.length : Int) := by omega
    have hlen : ¬ (o.length : Int) > most := by have := R.len; omega
    have run0 : ∀ (c : List Int) (three : Bool), Ev (fun k => laws_FnProperRuns.j2 k l1 (endOf o t).1 c three) true → Ev (fun k => laws_FnProperRuns.j0 k l1 n most (endOf o t).1 true o c three false) true := by
      intro c three hj
      refine Ev.step (fun k => by rw [laws_FnProperRuns.j0]) ?_
      refine Ev.neg (by simp) (Ev.pos rfl (Ev.pos hopi (Ev.pos hro (Ev.neg hlen ?_))))
      exact l0_ev l1 o c (endOf o t).1 t n most three R h.2.2 hen.1 hen.2.1 hj (o.length - 1) 1 (by omega) (by omega)
    rcases hC with ⟨hn, e5, e6⟩ | ⟨c, hT, e5, e6⟩
    · refine Ev.bind e6 (Ev.bind e5 (Ev.neg tt (Ev.pos rfl (Ev.neg tt (Ev.bind hq (Ev.pos rfl (Ev.neg ff (Ev.bind (qSame_ev [] (by simp)) (Ev.pos rfl (Ev.neg tt (Ev.pos rfl ?_)))))))))))
      have fin := run0 [] false (Ev.step (fun k => by rw [laws_FnProperRuns.j2]) (Ev.neg (by simp) (j6_ev l1 hl1)))
      by_cases c1 : (endOf o t).1 ≥ 1
      · refine Ev.pos c1 ?_
        have c3 : (false != decide ((endOf o t).1 ≤ 3)) = false := by
          have := hen.2.2.1 hn
          simp; omega
        rw [c3]; exact fin
      · exact Ev.neg c1 fin
    · have hne : (endOf o t).2 ≠ [] := by
        obtain ⟨i, m, hi, _⟩ := hT.at_
        intro he; rw [he] at hi; simp at hi
      obtain ⟨hx, hd, hm, h13⟩ := hen.2.2.2 hne
      obtain ⟨C0, hL⟩ := R.circ h.2.2 hx
      rw [hd] at hT
      obtain ⟨C, hcl, hmin⟩ := hT.circ C0
      have hcl' : (c.length : Int) = (o.length : Int) - ix o t := by rw [hcl]; exact hL
      have hmn := mn_le ((o.length : Int) - ix o t) 3
      refine Ev.bind e6 (Ev.bind e5 (Ev.neg tt (Ev.pos rfl (Ev.neg tt (Ev.bind hq (Ev.pos rfl (Ev.neg tt (Ev.bind (qSame_ev c (by have := C.len; omega)) (Ev.pos rfl (Ev.neg tt (Ev.pos rfl (Ev.pos h13.1 ?_))))))))))))
      have c3 : (true != decide ((endOf o t).1 ≤ 3)) = false := by simp; omega
      rw [c3]
      have hl := l1_ev l1 c hl1 (endOf o t).1 C (by omega) (by omega) hmin c.length 0 (by omega)
      refine run0 c true ?_
      refine Ev.step (fun k => by rw [laws_FnProperRuns.j2]) ?_
      exact Ev.pos rfl hl
  · obtain ⟨e1, e2, e3, e4, e5, e6⟩ := none_ev n most h
    have fin : Ev (fun k => laws_FnProperRuns.j0 k l1 n most 0 false [] [] false (false != false)) true :=
      Ev.step (fun k => by rw [laws_FnProperRuns.j0]) (Ev.neg ff (Ev.neg (by simp) (Ev.step (fun k => by rw [laws_FnProperRuns.j2]) (Ev.neg (by simp) (j6_ev l1 hl1)))))
    exact Ev.bind e2 (Ev.bind e1 (Ev.bind e4 (Ev.bind e3 (Ev.bind e6 (Ev.bind e5 (Ev.neg ff (Ev.pos rfl (Ev.neg ff (Ev.bind (qSame_ev [] (by simp)) (Ev.pos rfl (Ev.neg ff (Ev.bind (qSame_ev [] (by simp)) (Ev.pos rfl (Ev.neg ff (Ev.neg (by simp) fin)))))))))))))))

end Go.Proofs.Ythamjbfdhghbbaa.Pure
