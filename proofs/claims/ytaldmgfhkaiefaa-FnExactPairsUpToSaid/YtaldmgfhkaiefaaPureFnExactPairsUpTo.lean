/- FnExactPairsUpTo: whatever whole number is given, the program's PairsUpTo and the reference's hand back the same list of pairs of partners and the same bool, twice, and what is written into the first list stays there. -/
import Derived.Test.YtaldmgfhkaiefaaPFnExactPairsUpTox
namespace Go.Proofs.Ytaldmgfhkaiefaa.Pure
open Go.RowKit Go.Proofs.Ytaldmgfhkaiefaa.PFnExactPairsUpTo Go.Proofs.YtaldmgfhkaiefaaW.PrintWords Go.Proofs.YtaldmgfhkaiefaaW.PrintLast
set_option linter.unusedVariables false
set_option linter.unusedSimpArgs false
/-! ### words on rounds and on int's wraps -/
theorem Ev.pos {α : Type} {c : Prop} [Decidable c] {g f : Nat → Option α} {r : α} (hc : c) (h : Ev g r) : Ev (fun k => if c then g k else f k) r := Ev.congr (fun _ => if_pos hc) h
theorem Ev.neg {α : Type} {c : Prop} [Decidable c] {g f : Nat → Option α} {r : α} (hc : ¬ c) (h : Ev f r) : Ev (fun k => if c then g k else f k) r := Ev.congr (fun _ => if_neg hc) h
theorem Ev.some {α : Type} {a r : α} (h : a = r) : Ev (fun _ => Option.some a) r := h ▸ Ev.now a
theorem Ev.bind1 {α β : Type} {g : Nat → Option α} {f : Nat → α → Option β} {a : α} {r : β} (h : Ev g a) (k : Ev (fun n => f n a) r) : Ev (fun n => (g n).bind (f n)) r := Ev.bind h k
theorem Ev.pure_bind {α β : Type} {o : Option α} {f : Nat → α → Option β} {a : α} {r : β} (h : o = Option.some a) (k : Ev (fun n => f n a) r) : Ev (fun n => o.bind (f n)) r := by
  subst h; exact k
theorem Ev.two {α β : Type} {g : Nat → Option α} {f : Nat → Option β} {a : α} {b : β} (h : Ev g a) (k : Ev f b) : ∃ n, g n = Option.some a ∧ f n = Option.some b := by
  obtain ⟨K, h⟩ := h
  obtain ⟨K', k⟩ := k
  exact ⟨max K K', h _ (by omega), k _ (by omega)⟩
theorem w64 {n : Int} (h0 : -9223372036854775808 ≤ n) (h1 : n < 9223372036854775808) : wrap64 n = n := by unfold wrap64; omega
theorem w64_emod (n : Int) : wrap64 n % 18446744073709551616 = n % 18446744073709551616 := by unfold wrap64; omega
theorem w64_congr {a b : Int} (h : a % 18446744073709551616 = b % 18446744073709551616) : wrap64 a = wrap64 b := by unfold wrap64; omega
theorem w64_lo (n : Int) : -9223372036854775808 ≤ wrap64 n := by unfold wrap64; omega
theorem w64_hi (n : Int) : wrap64 n < 9223372036854775808 := by unfold wrap64; omega
theorem int_wf {a : Int} (h : (Lit.int .i64 a).wf = true) : -9223372036854775808 ≤ a ∧ a ≤ 9223372036854775807 := by
  simp [Lit.wf] at h
  exact ⟨h.1, h.2⟩

/-! ### factors, sums of divisors: both texts, 1 ≤ n ≤ 10^9 -/
def prodL : List Int → Int
  | [] => 1
  | x :: xs => x * prodL xs
theorem prodL_append : ∀ (a b : List Int), prodL (a ++ b) = prodL a * prodL b
  | [], b => by simp [prodL]
  | x :: a, b => by simp only [List.cons_append, prodL, prodL_append a b, Int.mul_assoc]
theorem prodL_pos : ∀ (a : List Int), (∀ x ∈ a, 2 ≤ x) → 1 ≤ prodL a
  | [], _ => by simp [prodL]
  | x :: a, h => by
    have h1 := prodL_pos a (fun y hy => h y (List.mem_cons_of_mem _ hy))
    have h2 := h x List.mem_cons_self
    have := Int.mul_le_mul (show 1 ≤ x by omega) h1 (by omega) (by omega)
    simp only [prodL]; omega
theorem factors_same : ∀ k, (∀ x y z, impl_factors.l0 k x y z = spec_dvFactors.l0 k x y z) ∧ (∀ x y z, impl_factors.l1 k x y z = spec_dvFactors.l1 k x y z)
  | 0 => ⟨fun _ _ _ => rfl, fun _ _ _ => rfl⟩
  | k + 1 => by
    obtain ⟨h0, h1⟩ := factors_same k
    exact ⟨fun x y z => by simp only [impl_factors.l0, spec_dvFactors.l0, h1], fun x y z => by simp only [impl_factors.l1, spec_dvFactors.l1, h0, h1]⟩
theorem sq_le {a b : Int} (h0 : 0 ≤ a) (h : a ≤ b) : a * a ≤ b * b := Int.mul_le_mul h h h0 (by omega)
theorem factors_ev (d : Nat) :
    (∀ (n p : Int) (out : List Int), 1 ≤ n → n ≤ 1000000000 → 2 ≤ p → p ≤ 31623 → out.length + n ≤ 1000000000 → (∀ x ∈ out, 2 ≤ x) → 2 * (31624 - p) + 1 + n ≤ d →
      ∃ fs, Ev (fun k => spec_dvFactors.l0 k n out p) fs ∧ prodL fs = prodL out * n ∧ (∀ x ∈ fs, 2 ≤ x) ∧ fs.length ≤ 1000000000) ∧
    (∀ (n p : Int) (out : List Int), 1 ≤ n → n ≤ 1000000000 → 2 ≤ p → p ≤ 31622 → out.length + n ≤ 1000000000 → (∀ x ∈ out, 2 ≤ x) → 2 * (31624 - p) + n ≤ d →
      ∃ fs, Ev (fun k => spec_dvFactors.l1 k n out p) fs ∧ prodL fs = prodL out * n ∧ (∀ x ∈ fs, 2 ≤ x) ∧ fs.length ≤ 1000000000) := by
  induction d with
  | zero => exact ⟨fun n p out _ _ _ _ _ _ _ => by omega, fun n p out _ _ _ _ _ _ _ => by omega⟩
  | succ d ih =>
    obtain ⟨ih0, ih1⟩ := ih
    refine ⟨fun n p out h1 h2 h3 h4 h5 h6 h7 => ?_, fun n p out h1 h2 h3 h4 h5 h6 h7 => ?_⟩
    · have hpp := sq_le (by omega) h4
      have hp0 := sq_le (by omega) h3
      have hw : wrap64 (p * p) = p * p := w64 (by omega) (by omega)
      by_cases c : p * p ≤ n
      · have hp : p ≤ 31622 := by
          by_cases hh : p ≤ 31622
          · exact hh
          · have : p = 31623 := by omega
            subst this; omega
        obtain ⟨fs, e, r⟩ := ih1 n p out h1 h2 h3 hp h5 h6 (by omega)
        exact ⟨fs, Ev.step (fun k => by rw [spec_dvFactors.l0]) (Ev.pos (by rw [hw]; exact c) e), r⟩
      · by_cases c1 : n > 1
        · refine ⟨out ++ [n], Ev.step (fun k => by rw [spec_dvFactors.l0]) (Ev.neg (by rw [hw]; exact c) (Ev.pos c1 (Ev.pos (by omega) (Ev.now _)))), by simp [prodL_append, prodL], ?_, by simp; omega⟩
          intro x hx
          rcases List.mem_append.1 hx with hx | hx
          · exact h6 x hx
          · simp at hx; omega
        · have : n = 1 := by omega
          subst this
          exact ⟨out, Ev.step (fun k => by rw [spec_dvFactors.l0]) (Ev.neg (by rw [hw]; exact c) (Ev.neg c1 (Ev.now _))), by simp, h6, by omega⟩
    · have hm : Int.tmod n p = n % p := Int.tmod_eq_emod_of_nonneg (by omega)
      have hd : Int.tdiv n p = n / p := Int.tdiv_eq_ediv_of_nonneg (by omega)
      by_cases c : n % p = 0
      · have he : n = p * (n / p) := by have := Int.mul_ediv_add_emod n p; omega
        have hq1 : 1 ≤ n / p := by
          by_cases hz : 1 ≤ n / p
          · exact hz
          · have hz2 : n / p ≤ 0 := by omega
            have := Int.mul_le_mul_of_nonneg_left hz2 (show 0 ≤ p by omega)
            omega
        have hq2 : 2 * (n / p) ≤ p * (n / p) := Int.mul_le_mul_of_nonneg_right h3 (by omega)
        have hw : wrap64 (Int.tdiv n p) = n / p := by rw [hd]; exact w64 (by omega) (by omega)
        obtain ⟨fs, e, r1, r2, r3⟩ := ih1 (n / p) p (out ++ [p]) hq1 (by omega) h3 h4 (by simp; omega) (fun x hx => by
          rcases List.mem_append.1 hx with hx | hx
          · exact h6 x hx
          · simp at hx; omega) (by omega)
        refine ⟨fs, Ev.step (fun k => by rw [spec_dvFactors.l1]) (Ev.neg (by omega) (Ev.pos (by rw [hm]; exact c) (Ev.pos (by omega) (by rw [hw]; exact e)))), ?_, r2, r3⟩
        rw [r1, prodL_append]; simp only [prodL, Int.mul_one]; rw [Int.mul_assoc, ← he]
      · have hw : wrap64 (p + 1) = p + 1 := w64 (by omega) (by omega)
        obtain ⟨fs, e, r⟩ := ih0 n (p + 1) out h1 h2 (by omega) (by omega) h5 h6 (by omega)
        exact ⟨fs, Ev.step (fun k => by rw [spec_dvFactors.l1]) (Ev.neg (by omega) (Ev.neg (by rw [hm]; exact c) (by rw [hw]; exact e))), r⟩
theorem factors_all (n : Int) (h1 : 1 ≤ n) (h2 : n ≤ 1000000000) : ∃ fs, Ev (fun k => spec_dvFactors.f k n) fs ∧ Ev (fun k => impl_factors.f k n) fs ∧ prodL fs = n ∧ (∀ x ∈ fs, 2 ≤ x) ∧ fs.length ≤ 1000000000 := by
  obtain ⟨fs, e, r1, r2, r3⟩ := (factors_ev (2 * 31624 + 1 + n.toNat)).1 n 2 [] h1 h2 (by omega) (by omega) (by simp; omega) (by simp) (by omega)
  exact ⟨fs, e, Ev.congr (fun k => (factors_same k).1 _ _ _) e, by simpa [prodL] using r1, r2, r3⟩
theorem two_sub {P : Int} : 2 * P - 1 ≤ P * P := by
  have h : 0 ≤ (P - 1) * (P - 1) := by
    rcases Int.le_total 0 (P - 1) with h | h
    · exact Int.mul_nonneg h h
    · exact Int.mul_nonneg_of_nonpos_of_nonpos h h
  rw [Int.sub_mul, Int.mul_sub] at h; omega
/-- One stretch of equal factors, from any of its places on. -/
theorem sums_ev (xs0 : List Int) (hl0 : xs0.length ≤ 1000000000) : ∀ (xs : List Int) (i : Nat), xs0.drop i = xs → i ≤ xs0.length → (∀ x ∈ xs, 2 ≤ x) →
    ∀ (s c part P p j : Int), 2 ≤ p → 1 ≤ P → P ≤ part → part ≤ 2 * P - 1 → part * p + 1 = part + P * p → 1 ≤ s → s * (P * prodL xs * (P * prodL xs)) ≤ 1000000000000000000 →
    ∃ T c', Ev (fun k => impl_divisors.l1 k s c xs part j p) (s * T, c') ∧ Ev (fun k => spec_dvSums.l1 k s c xs0 i p P j part) (s * T, c') ∧ P * prodL xs ≤ T ∧ T ≤ P * prodL xs * (P * prodL xs) ∧ (P < part → P * prodL xs + 1 ≤ T) := by
  intro xs
  induction xs with
  | nil =>
    intro i hd hi hx s c part P p j hp hP h1 h2 h3 hs hb
    have hin : ¬ (i : Int) < (xs0.length : Int) := by
      intro h
      have : (xs0.drop i).length = 0 := by rw [hd]; rfl
      rw [List.length_drop] at this; omega
    simp only [prodL, Int.mul_one] at hb ⊢
    have hPP := @two_sub P
    have hsp : s * part ≤ s * (P * P) := Int.mul_le_mul_of_nonneg_left (by omega) (by omega)
    have hsp0 : 0 ≤ s * part := Int.mul_nonneg (by omega) (by omega)
    have hw : wrap64 (s * part) = s * part := w64 (by omega) (by omega)
    refine ⟨part, wrap64 (c * wrap64 (j + 1)), ?_, ?_, by omega, by omega, by omega⟩
    · refine Ev.step (fun k => by rw [impl_divisors.l1]) (Ev.neg (by simp) ?_)
      exact Ev.step (fun k => by rw [impl_divisors.l0]) (Ev.neg (by simp) (by rw [hw]; exact Ev.now _))
    · refine Ev.step (fun k => by rw [spec_dvSums.l1]) (Ev.neg hin ?_)
      exact Ev.step (fun k => by rw [spec_dvSums.l0]) (Ev.neg hin (by rw [hw]; exact Ev.now _))
  | cons x r ih =>
    intro i hd hi hx s c part P p j hp hP h1 h2 h3 hs hb
    have hin : (i : Int) < (xs0.length : Int) := by
      have : (xs0.drop i).length = r.length + 1 := by rw [hd]; rfl
      rw [List.length_drop] at this; omega
    have hget : rd xs0 (i : Int) = x := by
      unfold rd
      have : (xs0.drop i)[0]? = some x := by rw [hd]; rfl
      rw [List.getElem?_drop] at this
      simp only [Nat.add_zero] at this
      simp [List.getD_eq_getElem?_getD, this]
    have hrd : rd (x :: r) 0 = x := rfl
    have hlen : (0 : Int) < ((x :: r).length : Int) := Int.ofNat_lt.2 (Nat.succ_pos _)
    have hlen1 : (1 : Int) ≤ ((x :: r).length : Int) := Int.ofNat_le.2 (Nat.succ_pos _)
    have hdr : xs0.drop (i + 1) = r := by rw [← List.drop_drop, hd]; rfl
    have hx2 := hx x List.mem_cons_self
    have hxr : ∀ y ∈ r, 2 ≤ y := fun y hy => hx y (List.mem_cons_of_mem _ hy)
    have hr1 := prodL_pos r hxr
    have hwi : wrap64 ((i : Int) + 1) = ((i + 1 : Nat) : Int) := by rw [w64 (by omega) (by omega)]; rfl
    simp only [prodL] at hb ⊢
    by_cases hxp : x = p
    · subst hxp
      have hQ : P * (x * prodL r) = P * x * prodL r := by rw [Int.mul_assoc]
      rw [hQ] at hb ⊢
      have hPx : 1 * 2 ≤ P * x := Int.mul_le_mul hP hx2 (by omega) (by omega)
      have hQ1 : P * x ≤ P * x * prodL r := by have := Int.mul_le_mul_of_nonneg_left hr1 (show 0 ≤ P * x by omega); omega
      have hbd : P * x * prodL r * (P * x * prodL r) ≤ 1000000000000000000 := by
        have hnn : 0 ≤ P * x * prodL r * (P * x * prodL r) := Int.mul_nonneg (by omega) (by omega)
        have := Int.mul_le_mul_of_nonneg_right hs hnn
        omega
      have hPP := @two_sub (P * x)
      have hPQ : P * x * (P * x) ≤ P * x * prodL r * (P * x * prodL r) := sq_le (by omega) hQ1
      have hpa : part * x ≤ (2 * P - 1) * x := Int.mul_le_mul_of_nonneg_right h2 (by omega)
      rw [Int.sub_mul, Int.mul_assoc] at hpa
      have hpa0 : P * x ≤ part * x := Int.mul_le_mul_of_nonneg_right h1 (by omega)
      have hw1 : wrap64 (wrap64 (part * x) + 1) = part * x + 1 := by rw [w64 (n := part * x) (by omega) (by omega), w64 (by omega) (by omega)]
      have hw2 : wrap64 (P * x) = P * x := w64 (by omega) (by omega)
      have hI : (part * x + 1) * x + 1 = part * x + 1 + P * x * x := by
        have h4 : (part * x + 1) * x = (part + P * x) * x := by rw [h3]
        rw [h4, Int.add_mul]; omega
      have hw3 : wrap64 (part + P * x) = part * x + 1 := by rw [← h3]; exact w64 (by omega) (by omega)
      obtain ⟨T, c', e1, e2, b1, b2, b3⟩ := ih (i + 1) hdr (Int.ofNat_lt.1 hin) hxr s c (part * x + 1) (P * x) x (wrap64 (j + 1)) hp (by omega) (by omega) (by omega) hI hs hb
      refine ⟨T, c', ?_, ?_, b1, b2, fun _ => b3 (by omega)⟩
      · refine Ev.step (fun k => by rw [impl_divisors.l1]) (Ev.pos hlen (Ev.pos hlen (Ev.pos hrd (Ev.pos hlen1 ?_))))
        rw [hw1]; exact e1
      · refine Ev.step (fun k => by rw [spec_dvSums.l1]) (Ev.pos hin (Ev.pos (Int.natCast_nonneg i) (Ev.pos hget ?_)))
        rw [hw2, hw3, hwi]; exact e2
    · have hPP := @two_sub P
      have hpd : 1 * 1 ≤ x * prodL r := Int.mul_le_mul (by omega) hr1 (by omega) (by omega)
      have hR2 : 1 * 1 ≤ x * prodL r * (x * prodL r) := Int.mul_le_mul (by omega) (by omega) (by omega) (by omega)
      have hPart : part * (x * prodL r * (x * prodL r)) ≤ P * P * (x * prodL r * (x * prodL r)) := Int.mul_le_mul_of_nonneg_right (by omega) (by omega)
      have hre : P * P * (x * prodL r * (x * prodL r)) = P * (x * prodL r) * (P * (x * prodL r)) := by simp only [Int.mul_assoc, Int.mul_left_comm]
      have hs2 : s * part * (x * prodL r * (x * prodL r)) ≤ 1000000000000000000 := by
        have := Int.mul_le_mul_of_nonneg_left hPart (show 0 ≤ s by omega)
        rw [hre] at this
        rw [Int.mul_assoc]; omega
      have hsp0 : 1 * 1 ≤ s * part := Int.mul_le_mul hs (by omega) (by omega) (by omega)
      have hsp : s * part ≤ s * part * (x * prodL r * (x * prodL r)) := by have := Int.mul_le_mul_of_nonneg_left hR2 (show 0 ≤ s * part by omega); omega
      have hw : wrap64 (s * part) = s * part := w64 (by omega) (by omega)
      have hx3 : x ≤ x * prodL r := by have := Int.mul_le_mul_of_nonneg_left hr1 (show 0 ≤ x by omega); omega
      have hx4 : x * prodL r ≤ x * prodL r * (x * prodL r) := by have := Int.mul_le_mul_of_nonneg_left (show 1 ≤ x * prodL r by omega) (show 0 ≤ x * prodL r by omega); omega
      have hb1 : x * prodL r * (x * prodL r) ≤ 1000000000000000000 := by have := Int.mul_le_mul_of_nonneg_right (show 1 ≤ s * part by omega) (show 0 ≤ x * prodL r * (x * prodL r) by omega); omega
      have hw1 : wrap64 (wrap64 (1 * x) + 1) = x + 1 := by rw [Int.one_mul, w64 (n := x) (by omega) (by omega), w64 (by omega) (by omega)]
      have hw2 : wrap64 (1 * x) = x := by rw [Int.one_mul]; exact w64 (by omega) (by omega)
      have hw3 : wrap64 (1 + x) = x + 1 := by rw [w64 (by omega) (by omega)]; omega
      obtain ⟨T, c', e1, e2, b1, b2, b3⟩ := ih (i + 1) hdr (Int.ofNat_lt.1 hin) hxr (s * part) (wrap64 (c * wrap64 (j + 1))) (x + 1) x x (wrap64 (0 + 1)) hx2 (by omega) (by omega) (by omega) (by rw [Int.add_mul]; omega) (by omega) hs2
      have b3' := b3 (by omega)
      have hT1 : P * (x * prodL r + 1) ≤ part * T := Int.mul_le_mul h1 b3' (by omega) (by omega)
      rw [Int.mul_add] at hT1
      have hT2 : part * T ≤ part * (x * prodL r * (x * prodL r)) := Int.mul_le_mul_of_nonneg_left b2 (by omega)
      refine ⟨part * T, c', ?_, ?_, by omega, by omega, fun _ => by omega⟩
      · refine Ev.step (fun k => by rw [impl_divisors.l1]) (Ev.pos hlen (Ev.pos hlen (Ev.neg (by rw [hrd]; exact hxp) ?_)))
        refine Ev.step (fun k => by rw [impl_divisors.l0]) (Ev.pos hlen (Ev.pos hlen ?_))
        rw [hw, hrd]
        refine Ev.step (fun k => by rw [impl_divisors.l1]) (Ev.pos hlen (Ev.pos hlen (Ev.pos hrd (Ev.pos hlen1 ?_))))
        rw [hw1, ← Int.mul_assoc]; exact e1
      · refine Ev.step (fun k => by rw [spec_dvSums.l1]) (Ev.pos hin (Ev.pos (Int.natCast_nonneg i) (Ev.neg (by rw [hget]; exact hxp) ?_)))
        refine Ev.step (fun k => by rw [spec_dvSums.l0]) (Ev.pos hin (Ev.pos (Int.natCast_nonneg i) ?_))
        rw [hw, hget]
        refine Ev.step (fun k => by rw [spec_dvSums.l1]) (Ev.pos hin (Ev.pos (Int.natCast_nonneg i) (Ev.pos hget ?_)))
        rw [hw2, hw3, hwi, ← Int.mul_assoc]; exact e2

theorem sums_all (n : Int) (h1 : 1 ≤ n) (h2 : n ≤ 1000000000) : ∃ S c, Ev (fun k => spec_dvSums.f k n) (S, c) ∧ Ev (fun k => impl_divisors.f k n) (S, c) ∧ n ≤ S ∧ S ≤ n * n ∧ (n = 1 → S = 1) ∧ (2 ≤ n → n + 1 ≤ S) := by
  obtain ⟨fs, e1, e2, hp, hx, hl⟩ := factors_all n h1 h2
  have hn2 : n * n ≤ 1000000000 * 1000000000 := sq_le (by omega) h2
  cases fs with
  | nil =>
    simp only [prodL] at hp
    subst hp
    refine ⟨1, 1, ?_, ?_, by omega, by omega, fun _ => rfl, fun h => by omega⟩
    · exact Ev.bind e1 (Ev.step (fun k => by rw [spec_dvSums.l0]) (Ev.neg (by simp) (Ev.now _)))
    · exact Ev.bind e2 (Ev.step (fun k => by rw [impl_divisors.l0]) (Ev.neg (by simp) (Ev.now _)))
  | cons x r =>
    have hlen : (0 : Int) < ((x :: r).length : Int) := Int.ofNat_lt.2 (Nat.succ_pos _)
    have hlen1 : (1 : Int) ≤ ((x :: r).length : Int) := Int.ofNat_le.2 (Nat.succ_pos _)
    have hrd : rd (x :: r) 0 = x := rfl
    have hx2 := hx x List.mem_cons_self
    have hxr : ∀ y ∈ r, 2 ≤ y := fun y hy => hx y (List.mem_cons_of_mem _ hy)
    have hr1 := prodL_pos r hxr
    simp only [prodL] at hp
    have hxn : x ≤ n := by have := Int.mul_le_mul_of_nonneg_left hr1 (show 0 ≤ x by omega); omega
    have hn0 : n ≤ n * n := by have := Int.mul_le_mul_of_nonneg_left h1 (show 0 ≤ n by omega); omega
    have hw1 : wrap64 (wrap64 (1 * x) + 1) = x + 1 := by rw [Int.one_mul, w64 (n := x) (by omega) (by omega), w64 (by omega) (by omega)]
    have hw2 : wrap64 (1 * x) = x := by rw [Int.one_mul]; exact w64 (by omega) (by omega)
    have hw3 : wrap64 (1 + x) = x + 1 := by rw [w64 (by omega) (by omega)]; omega
    have hw4 : wrap64 ((0 : Int) + 1) = ((0 + 1 : Nat) : Int) := w64 (by decide) (by decide)
    have hI : (x + 1) * x + 1 = x + 1 + x * x := by rw [Int.add_mul]; omega
    obtain ⟨T, c', e3, e4, b1, b2, b3⟩ := sums_ev (x :: r) hl r (0 + 1) rfl (Nat.succ_pos _) hxr 1 1 (x + 1) x x (wrap64 (0 + 1)) hx2 (by omega) (by omega) (by omega) hI (by omega) (by rw [hp]; omega)
    rw [hp] at b1 b2 b3
    rw [Int.one_mul] at e3 e4
    have b4 := b3 (by omega)
    refine ⟨T, c', ?_, ?_, by omega, b2, fun h => by omega, fun _ => b4⟩
    · refine Ev.bind e1 (Ev.step (fun k => by rw [spec_dvSums.l0]) (Ev.pos hlen (Ev.pos (Int.le_refl 0) ?_)))
      rw [hrd]
      refine Ev.step (fun k => by rw [spec_dvSums.l1]) (Ev.pos hlen (Ev.pos (Int.le_refl 0) (Ev.pos hrd ?_)))
      rw [hw2, hw3]
      rw [← hw4] at e4; exact e4
    · refine Ev.bind e2 (Ev.step (fun k => by rw [impl_divisors.l0]) (Ev.pos hlen (Ev.pos hlen ?_)))
      rw [hrd]
      refine Ev.step (fun k => by rw [impl_divisors.l1]) (Ev.pos hlen (Ev.pos hlen (Ev.pos hrd (Ev.pos hlen1 ?_))))
      rw [hw1]; exact e3
/-- The proper sum. -/
theorem proper_all (n : Int) (h1 : 1 ≤ n) (h2 : n ≤ 1000000000) : ∃ s, Ev (fun k => spec_dvProper.f k n) s ∧ Ev (fun k => impl_proper.f k n) s ∧ 0 ≤ s ∧ s ≤ 1000000000000000000 ∧ (n = 1 → s = 0) ∧ (2 ≤ n → 1 ≤ s) := by
  obtain ⟨S, c, e1, e2, b0, b1, b2, b3⟩ := sums_all n h1 h2
  have hn2 : n * n ≤ 1000000000 * 1000000000 := sq_le (by omega) h2
  have hw : wrap64 (S - n) = S - n := w64 (by omega) (by omega)
  refine ⟨S - n, ?_, ?_, by omega, by omega, fun h => by have := b2 h; omega, fun h => by have := b3 h; omega⟩
  · exact Ev.bind e1 (Ev.some hw)
  · exact Ev.bind e2 (Ev.some hw)
open Classical in
noncomputable def pr (n : Int) : Int := if h : 1 ≤ n ∧ n ≤ 1000000000 then Classical.choose (proper_all n h.1 h.2) else 0
theorem pr_ev (n : Int) (h1 : 1 ≤ n) (h2 : n ≤ 1000000000) : Ev (fun k => spec_dvProper.f k n) (pr n) ∧ Ev (fun k => impl_proper.f k n) (pr n) ∧ 0 ≤ pr n ∧ pr n ≤ 1000000000000000000 ∧ (n = 1 → pr n = 0) ∧ (2 ≤ n → 1 ≤ pr n) := by
  unfold pr
  rw [dif_pos ⟨h1, h2⟩]
  exact Classical.choose_spec (proper_all n h1 h2)

/-! ### what is marked is held; a list is equal to itself -/
theorem rd_of_get {xs : List Int} {i : Nat} {x : Int} (h : xs[i]? = some x) : rd xs (i : Int) = x := by
  simp [rd, List.getD_eq_getElem?_getD, h]
theorem eqIntS_ev (xs : List Int) (hl : (xs.length : Int) ≤ 4611686018427387904) : Ev (fun k => laws_eqIntS.f k xs xs) true := by
  have key : ∀ (d i : Nat), xs.length = i + d → Ev (fun k => laws_eqIntS.l0 k xs xs (i : Int)) true := by
    intro d
    induction d with
    | zero => intro i h; exact Ev.step (fun k => by rw [laws_eqIntS.l0]) (Ev.neg (by omega) (Ev.now _))
    | succ d ih =>
      intro i h
      have hw : wrap64 ((i : Int) + 1) = ((i + 1 : Nat) : Int) := by rw [w64 (by omega) (by omega)]; rfl
      refine Ev.step (fun k => by rw [laws_eqIntS.l0]) (Ev.pos (by omega) (Ev.pos (by omega) (Ev.pos (by omega) (Ev.pos rfl ?_))))
      rw [hw]; exact ih (i + 1) (by omega)
  exact Ev.pos rfl (key xs.length 0 (by omega))
theorem eqIntSS_ev (xs : List (List Int)) (hl : (xs.length : Int) ≤ 4611686018427387904) (hin : ∀ x ∈ xs, (x.length : Int) ≤ 4611686018427387904) : Ev (fun k => laws_eqIntSS.f k xs xs) true := by
  have key : ∀ (d i : Nat), xs.length = i + d → Ev (fun k => laws_eqIntSS.l0 k xs xs (i : Int)) true := by
    intro d
    induction d with
    | zero => intro i h; exact Ev.step (fun k => by rw [laws_eqIntSS.l0]) (Ev.neg (by omega) (Ev.now _))
    | succ d ih =>
      intro i h
      have hw : wrap64 ((i : Int) + 1) = ((i + 1 : Nat) : Int) := by rw [w64 (by omega) (by omega)]; rfl
      have hlt : i < xs.length := by omega
      have hm : (rd_L1 xs (i : Int)) ∈ xs := by
        simp [rd_L1, List.getD_eq_getElem?_getD, List.getElem?_eq_getElem hlt]
      refine Ev.step (fun k => by rw [laws_eqIntSS.l0]) (Ev.pos (by omega) (Ev.pos (by omega) (Ev.pos (by omega) (Ev.bind (eqIntS_ev _ (hin _ hm)) (Ev.pos rfl ?_)))))
      rw [hw]; exact ih (i + 1) (by omega)
  exact Ev.pos rfl (key xs.length 0 (by omega))
/-- n marks from m on. -/
def marks (m : Int) : Nat → List Int
  | 0 => []
  | n + 1 => m :: marks (m + 1) n
theorem marks_length : ∀ (n : Nat) (m : Int), (marks m n).length = n
  | 0, _ => rfl
  | n + 1, m => by simp [marks, marks_length n]
theorem marks_get : ∀ (n i : Nat) (m : Int), i < n → (marks m n)[i]? = some (m + i)
  | n + 1, 0, m, _ => by simp [marks]
  | n + 1, i + 1, m, h => by
    rw [marks, List.getElem?_cons_succ, marks_get n i (m + 1) (by omega)]
    congr 1; omega
theorem markIntS_ev (xs : List Int) (m : Int) (hm0 : 0 ≤ m) (hm : m + xs.length ≤ 4611686018427387904) : Ev (fun k => laws_markIntS.f k xs m) (m + xs.length, marks m xs.length) := by
  have key : ∀ (d i : Nat), xs.length = i + d → Ev (fun k => laws_markIntS.l0 k (marks m i ++ xs.drop i) (m + i) (i : Int)) (m + xs.length, marks m xs.length) := by
    intro d
    induction d with
    | zero =>
      intro i h
      have hi : i = xs.length := by omega
      subst hi
      refine Ev.step (fun k => by rw [laws_markIntS.l0]) (Ev.neg (by simp [marks_length]) (Ev.some ?_))
      simp
    | succ d ih =>
      intro i h
      have hw : wrap64 ((i : Int) + 1) = ((i + 1 : Nat) : Int) := by rw [w64 (by omega) (by omega)]; rfl
      have hw2 : wrap64 (m + (i : Int) + 1) = m + ((i + 1 : Nat) : Int) := by rw [w64 (by omega) (by omega)]; omega
      have hlen : (i : Int) < ((marks m i ++ xs.drop i).length : Int) := by rw [List.length_append, marks_length, List.length_drop]; omega
      refine Ev.step (fun k => by rw [laws_markIntS.l0]) (Ev.pos hlen (Ev.pos (by omega) ?_))
      have hs : (marks m i ++ xs.drop i).set (i : Int).toNat (m + i) = marks m (i + 1) ++ xs.drop (i + 1) := by
        apply List.ext_getElem?
        intro j
        rw [List.getElem?_set]
        have hil : i < xs.length := by omega
        simp only [Int.toNat_natCast]
        by_cases hj : i = j
        · subst hj
          rw [if_pos rfl, if_pos (by omega), List.getElem?_append_left (by rw [marks_length]; omega), marks_get _ _ _ (by omega)]
        · rw [if_neg hj]
          by_cases hj2 : j < i
          · rw [List.getElem?_append_left (by rw [marks_length]; omega), List.getElem?_append_left (by rw [marks_length]; omega), marks_get _ _ _ hj2, marks_get _ _ _ (by omega)]
          · rw [List.getElem?_append_right (by rw [marks_length]; omega), List.getElem?_append_right (by rw [marks_length]; omega), marks_length, marks_length, List.getElem?_drop, List.getElem?_drop]
            congr 1; omega
      rw [hs, hw, hw2]; exact ih (i + 1) (by omega)
  have := key xs.length 0 (by omega)
  show Ev (fun k => laws_markIntS.l0 k xs m 0) _
  simpa [marks] using this
theorem heldIntS_ev (m : Int) (n : Nat) (hm0 : 0 ≤ m) (hm : m + n ≤ 4611686018427387904) : Ev (fun k => laws_heldIntS.f k (marks m n) m) (m + n) := by
  have key : ∀ (d i : Nat), n = i + d → Ev (fun k => laws_heldIntS.l0 k (marks m n) (m + i) (i : Int)) (m + n) := by
    intro d
    induction d with
    | zero =>
      intro i h
      have hi : i = n := by omega
      subst hi
      exact Ev.step (fun k => by rw [laws_heldIntS.l0]) (Ev.neg (by rw [marks_length]; omega) (Ev.now _))
    | succ d ih =>
      intro i h
      have hw : wrap64 ((i : Int) + 1) = ((i + 1 : Nat) : Int) := by rw [w64 (by omega) (by omega)]; rfl
      have hw2 : wrap64 (m + (i : Int) + 1) = m + ((i + 1 : Nat) : Int) := by rw [w64 (by omega) (by omega)]; omega
      refine Ev.step (fun k => by rw [laws_heldIntS.l0]) (Ev.pos (by rw [marks_length]; omega) (Ev.pos (by omega) (Ev.pos (rd_of_get (marks_get _ _ _ (by omega))) ?_)))
      rw [hw, hw2]; exact ih (i + 1) (by omega)
  have := key n 0 (by omega)
  show Ev (fun k => laws_heldIntS.l0 k (marks m n) m 0) _
  simpa using this

def total : List (List Int) → Int
  | [] => 0
  | x :: r => (x.length : Int) + total r
theorem total_nonneg : ∀ xs, 0 ≤ total xs
  | [] => by simp [total]
  | x :: r => by have := total_nonneg r; simp only [total]; omega
theorem total_append : ∀ a b, total (a ++ b) = total a + total b
  | [], b => by simp [total]
  | x :: a, b => by simp only [List.cons_append, total, total_append a b]; omega
def markss (m : Int) : List (List Int) → List (List Int)
  | [] => []
  | x :: r => marks m x.length :: markss (m + x.length) r
theorem markss_length : ∀ (xs : List (List Int)) (m : Int), (markss m xs).length = xs.length
  | [], _ => rfl
  | x :: r, m => by simp [markss, markss_length r]
theorem markIntSS_ev (xs : List (List Int)) (m : Int) (hm0 : 0 ≤ m) (hm : m + total xs ≤ 4611686018427387904) (hl : (xs.length : Int) ≤ 4611686018427387904) : Ev (fun k => laws_markIntSS.f k xs m) (m + total xs, markss m xs) := by
  have key : ∀ (r done : List (List Int)) (q : Int), 0 ≤ q → q + total r ≤ 4611686018427387904 → ((done.length + r.length : Nat) : Int) ≤ 4611686018427387904 → Ev (fun k => laws_markIntSS.l0 k (done ++ r) q (done.length : Int)) (q + total r, done ++ markss q r) := by
    intro r
    induction r with
    | nil =>
      intro done q h0 h1 h2
      refine Ev.step (fun k => by rw [laws_markIntSS.l0]) (Ev.neg (by simp) (Ev.some ?_))
      simp [total, markss]
    | cons x r ih =>
      intro done q h0 h1 h2
      simp only [total, List.length_cons] at h1 h2
      have ht := total_nonneg r
      have hw : wrap64 ((done.length : Int) + 1) = ((done ++ [marks q x.length]).length : Int) := by rw [w64 (by omega) (by omega)]; simp
      have hget : (done ++ x :: r).getD ((done.length : Int)).toNat ([] : List Int) = x := by simp [List.getD_eq_getElem?_getD]
      have hset : (done ++ x :: r).set ((done.length : Int)).toNat (marks q x.length) = (done ++ [marks q x.length]) ++ r := by simp
      refine Ev.step (fun k => by rw [laws_markIntSS.l0]) (Ev.pos (by simp only [List.length_append, List.length_cons]; omega) (Ev.pos (by omega) ?_))
      rw [hget]
      refine Ev.bind (markIntS_ev x q h0 (by omega)) ?_
      simp only [hset, hw]
      have e := ih (done ++ [marks q x.length]) (q + x.length) (by omega) (by omega) (by simp only [List.length_append, List.length_cons, List.length_nil]; omega)
      rw [show q + (total (x :: r)) = q + (x.length : Int) + total r from by simp only [total]; omega]
      rw [show done ++ markss q (x :: r) = done ++ [marks q x.length] ++ markss (q + x.length) r from by simp [markss]]
      exact e
  have := key xs [] m hm0 hm (by simpa using hl)
  show Ev (fun k => laws_markIntSS.l0 k xs m 0) _
  simpa using this
theorem heldIntSS_ev (xs : List (List Int)) (m : Int) (hm0 : 0 ≤ m) (hm : m + total xs ≤ 4611686018427387904) (hl : (xs.length : Int) ≤ 4611686018427387904) : Ev (fun k => laws_heldIntSS.f k (markss m xs) m) (m + total xs) := by
  have key : ∀ (r done : List (List Int)) (q : Int), 0 ≤ q → q + total r ≤ 4611686018427387904 → ((done.length + r.length : Nat) : Int) ≤ 4611686018427387904 → Ev (fun k => laws_heldIntSS.l0 k (done ++ markss q r) q (done.length : Int)) (q + total r) := by
    intro r
    induction r with
    | nil =>
      intro done q h0 h1 h2
      refine Ev.step (fun k => by rw [laws_heldIntSS.l0]) (Ev.neg (by simp [markss]) (Ev.some ?_))
      simp [total]
    | cons x r ih =>
      intro done q h0 h1 h2
      simp only [total, List.length_cons] at h1 h2
      have ht := total_nonneg r
      have hw : wrap64 ((done.length : Int) + 1) = ((done ++ [marks q x.length]).length : Int) := by rw [w64 (by omega) (by omega)]; simp
      have hget : rd_L1 (done ++ markss q (x :: r)) (done.length : Int) = marks q x.length := by simp [rd_L1, markss, List.getD_eq_getElem?_getD]
      refine Ev.step (fun k => by rw [laws_heldIntSS.l0]) (Ev.pos (by simp only [List.length_append, markss, List.length_cons]; omega) (Ev.pos (by omega) ?_))
      rw [hget]
      refine Ev.bind (heldIntS_ev q x.length h0 (by omega)) (Ev.neg (by omega) ?_)
      rw [hw]
      have e := ih (done ++ [marks q x.length]) (q + x.length) (by omega) (by omega) (by simp only [List.length_append, List.length_cons, List.length_nil]; omega)
      rw [show q + (total (x :: r)) = q + (x.length : Int) + total r from by simp only [total]; omega]
      rw [show done ++ markss q (x :: r) = done ++ [marks q x.length] ++ markss (q + x.length) r from by simp [markss]]
      exact e
  have := key xs [] m hm0 hm (by simpa using hl)
  show Ev (fun k => laws_heldIntSS.l0 k (markss m xs) m 0) _
  simpa using this

/-! ### PairsUpTo -/
theorem in_f (a b c : Int) : impl_in.f a b c = spec_l1In.f a b c := rfl
theorem l1In_f (a b c : Int) : spec_l1In.f a b c = some (decide (b ≤ a ∧ a ≤ c)) := by
  unfold spec_l1In.f
  by_cases h : b ≤ a
  · rw [if_pos h]; simp [h]
  · rw [if_neg h]; simp [h]
noncomputable def partnerOf (n : Int) : Int := if pr n = n then 0 else if 1 ≤ pr n ∧ pr n ≤ 1000000000 then (if pr (pr n) = n then pr n else 0) else 0
theorem partner_ev (n : Int) (h1 : 1 ≤ n) (h2 : n ≤ 1000000000) : Ev (fun k => spec_dvPartner.f k n) (partnerOf n) ∧ Ev (fun k => impl_partner.f k n) (partnerOf n) := by
  obtain ⟨e1, e2, _⟩ := pr_ev n h1 h2
  unfold partnerOf
  by_cases c : pr n = n
  · rw [if_pos c]
    exact ⟨Ev.bind e1 (Ev.pos c (Ev.now _)), Ev.bind e2 (Ev.pos c (Ev.now _))⟩
  · rw [if_neg c]
    have hd : spec_dvNumber.f (pr n) = some (decide (1 ≤ pr n ∧ pr n ≤ 1000000000)) := by unfold spec_dvNumber.f; rw [l1In_f]; rfl
    have hi : impl_isDivided.f (pr n) = some (decide (1 ≤ pr n ∧ pr n ≤ 1000000000)) := by unfold impl_isDivided.f; rw [in_f, l1In_f]; rfl
    by_cases c1 : 1 ≤ pr n ∧ pr n ≤ 1000000000
    · rw [if_pos c1]
      obtain ⟨e3, e4, _⟩ := pr_ev (pr n) c1.1 c1.2
      by_cases c2 : pr (pr n) = n
      · rw [if_pos c2]
        exact ⟨Ev.bind e1 (Ev.neg c (Ev.pure_bind hd (Ev.pos (by simpa using c1) (Ev.bind e3 (Ev.pos c2 (Ev.now _)))))), Ev.bind e2 (Ev.neg c (Ev.pure_bind hi (Ev.pos (by simpa using c1) (Ev.bind e4 (Ev.pos c2 (Ev.now _))))))⟩
      · rw [if_neg c2]
        exact ⟨Ev.bind e1 (Ev.neg c (Ev.pure_bind hd (Ev.pos (by simpa using c1) (Ev.bind e3 (Ev.neg c2 (Ev.now _)))))), Ev.bind e2 (Ev.neg c (Ev.pure_bind hi (Ev.pos (by simpa using c1) (Ev.bind e4 (Ev.neg c2 (Ev.now _))))))⟩
    · rw [if_neg c1]
      exact ⟨Ev.bind e1 (Ev.neg c (Ev.pure_bind hd (Ev.neg (by simpa using c1) (Ev.now _)))), Ev.bind e2 (Ev.neg c (Ev.pure_bind hi (Ev.neg (by simpa using c1) (Ev.now _))))⟩
theorem pairs_ev (a : Int) (ha : a ≤ 10000) (d : Nat) : ∀ (x : Int) (out : List (List Int)), 1 ≤ x → x ≤ 10001 → (out.length : Int) < x → (total out : Int) < 2 * x → a + 1 - x ≤ d →
    ∃ t, Ev (fun k => spec_PairsUpTo.l0 k a out x) (t, true) ∧ Ev (fun k => impl_PairsUpTo.l0 k a out x) (t, true) ∧ (t.length : Int) ≤ 10001 ∧ total t ≤ 20002 ∧ ∀ y ∈ t, y ∈ out ∨ y.length = 2 := by
  induction d with
  | zero =>
    intro x out h1 h1' h2 h3 h4
    exact ⟨out, Ev.step (fun k => by rw [spec_PairsUpTo.l0]) (Ev.neg (by omega) (Ev.now _)), Ev.step (fun k => by rw [impl_PairsUpTo.l0]) (Ev.neg (by omega) (Ev.now _)), by omega, by omega, fun y hy => .inl hy⟩
  | succ d ih =>
    intro x out h1 h1' h2 h3 h4
    by_cases c : x ≤ a
    · have hw : wrap64 (x + 1) = x + 1 := w64 (by omega) (by omega)
      obtain ⟨e1, e2⟩ := partner_ev x h1 (by omega)
      have hlim : out.length < 5864062014805 := by omega
      by_cases c1 : partnerOf x > x
      · obtain ⟨t, e3, e4, r1, r2, r3⟩ := ih (x + 1) (out ++ [[x, partnerOf x]]) (by omega) (by omega) (by simp only [List.length_append, List.length_cons, List.length_nil]; omega) (by rw [total_append]; simp only [total, List.length_cons, List.length_nil]; omega) (by omega)
        refine ⟨t, Ev.step (fun k => by rw [spec_PairsUpTo.l0]) (Ev.pos c (Ev.bind e1 (Ev.pos c1 (Ev.pos hlim ?_)))), Ev.step (fun k => by rw [impl_PairsUpTo.l0]) (Ev.pos c (Ev.bind e2 (Ev.pos c1 (Ev.pos hlim ?_)))), r1, r2, fun y hy => ?_⟩
        · rw [hw]; exact e3
        · rw [hw]; exact e4
        · rcases r3 y hy with h | h
          · rcases List.mem_append.1 h with h | h
            · exact .inl h
            · simp at h; subst h; exact .inr rfl
          · exact .inr h
      · obtain ⟨t, e3, e4, r1, r2, r3⟩ := ih (x + 1) out (by omega) (by omega) (by omega) (by omega) (by omega)
        refine ⟨t, Ev.step (fun k => by rw [spec_PairsUpTo.l0]) (Ev.pos c (Ev.bind e1 (Ev.neg c1 ?_))), Ev.step (fun k => by rw [impl_PairsUpTo.l0]) (Ev.pos c (Ev.bind e2 (Ev.neg c1 ?_))), r1, r2, r3⟩
        · rw [hw]; exact e3
        · rw [hw]; exact e4
    · exact ⟨out, Ev.step (fun k => by rw [spec_PairsUpTo.l0]) (Ev.neg c (Ev.now _)), Ev.step (fun k => by rw [impl_PairsUpTo.l0]) (Ev.neg c (Ev.now _)), by omega, by omega, fun y hy => .inl hy⟩
theorem FnExactPairsUpTo : laws_FnExactPairsUpTo.Pure := by
  intro a0 _
  have key : ∃ (t : List (List Int)) (b : Bool), Ev (fun k => spec_PairsUpTo.f k a0) (t, b) ∧ Ev (fun k => impl_PairsUpTo.f k a0) (t, b) ∧ (t.length : Int) ≤ 10001 ∧ total t ≤ 20002 ∧ ∀ y ∈ t, y.length = 2 := by
    by_cases c : 0 ≤ a0 ∧ a0 ≤ 10000
    · obtain ⟨t, e1, e2, r1, r2, r3⟩ := pairs_ev a0 c.2 (a0 + 1).toNat 1 [] (by omega) (by omega) (by simp) (by simp [total]) (by omega)
      exact ⟨t, true, Ev.pure_bind (l1In_f a0 0 10000) (Ev.pos (by simpa using c) e1), Ev.pure_bind ((in_f a0 0 10000).trans (l1In_f a0 0 10000)) (Ev.pos (by simpa using c) e2), r1, r2, fun y hy => (r3 y hy).elim (fun h => by cases h) id⟩
    · exact ⟨[], false, Ev.pure_bind (l1In_f a0 0 10000) (Ev.neg (by simpa using c) (Ev.now _)), Ev.pure_bind ((in_f a0 0 10000).trans (l1In_f a0 0 10000)) (Ev.neg (by simpa using c) (Ev.now _)), by simp, by simp [total], fun y hy => by cases hy⟩
  obtain ⟨t, b, e1, e2, r1, r2, r3⟩ := key
  have e3 := eqIntSS_ev t (by omega) (fun y hy => by have := r3 y hy; omega)
  have e4 := markIntSS_ev t 1 (by omega) (by omega) (by omega)
  have e5 := heldIntSS_ev t 1 (by omega) (by omega) (by omega)
  have ht := total_nonneg t
  obtain ⟨K1, e1⟩ := e1
  obtain ⟨K2, e2⟩ := e2
  obtain ⟨K3, e3⟩ := e3
  obtain ⟨K4, e4⟩ := e4
  obtain ⟨K5, e5⟩ := e5
  refine ⟨K1 + K2 + K3 + K4 + K5, t, t, markss 1 t, b, 1 + total t, e1 _ (by omega), e2 _ (by omega), e3 _ (by omega), e4 _ (by omega), e5 _ (by omega), by omega⟩

end Go.Proofs.Ytaldmgfhkaiefaa.Pure
