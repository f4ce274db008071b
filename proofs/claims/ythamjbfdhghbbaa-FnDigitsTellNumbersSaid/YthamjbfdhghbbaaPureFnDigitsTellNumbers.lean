/- Digits, counts and texts tell their numbers, and sums leave the remainder of digital roots; for all inputs. -/
import Derived.Test.YthamjbfdhghbbaaPFnDigitsTellNumbersx
namespace Go.Proofs.Ythamjbfdhghbbaa.Pure
open Go.RowKit Go.Proofs.Ythamjbfdhghbbaa.PFnDigitsTellNumbers Go.Proofs.YthamjbfdhghbbaaW.PrintWords Go.Proofs.YthamjbfdhghbbaaW.PrintLast
set_option linter.unusedVariables false
set_option linter.unusedSimpArgs false
/-! ### words on rounds and on int's wraps -/
theorem Ev.pos {α : Type} {c : Prop} [Decidable c] {g f : Nat → Option α} {r : α} (hc : c) (h : Ev g r) : Ev (fun k => if c then g k else f k) r := Ev.congr (fun _ => if_pos hc) h
theorem Ev.neg {α : Type} {c : Prop} [Decidable c] {g f : Nat → Option α} {r : α} (hc : ¬ c) (h : Ev f r) : Ev (fun k => if c then g k else f k) r := Ev.congr (fun _ => if_neg hc) h
theorem Ev.some {α : Type} {a r : α} (h : a = r) : Ev (fun _ => Option.some a) r := h ▸ Ev.now a
theorem Ev.bind1 {α β : Type} {g : Nat → Option α} {f : Nat → α → Option β} {a : α} {r : β} (h : Ev g a) (k : Ev (fun n => f n a) r) : Ev (fun n => (g n).bind (f n)) r := Ev.bind h k
theorem Ev.pure_bind {α β : Type} {o : Option α} {f : Nat → α → Option β} {a : α} {r : β} (h : o = Option.some a) (k : Ev (fun n => f n a) r) : Ev (fun n => o.bind (f n)) r := by
  subst h; exact k
theorem Ev.two {α β : Type} {g : Nat → Option α} {f : Nat → Option β} {a : α} {b : β} (h : Ev g a) (k : Ev f b) : ∃ n, g n = Option.some a ∧ f n = Option.some b := by
  obtain ⟨K, h⟩ := h
  obtain ⟨K', k⟩ := k
  exact ⟨max K K', h _ (by omega), k _ (by omega)⟩
theorem w64 {n : Int} (h0 : -9223372036854775808 ≤ n) (h1 : n < 9223372036854775808) : wrap64 n = n := by unfold wrap64; omega
theorem w64_emod (n : Int) : wrap64 n % 18446744073709551616 = n % 18446744073709551616 := by unfold wrap64; omega
theorem w64_congr {a b : Int} (h : a % 18446744073709551616 = b % 18446744073709551616) : wrap64 a = wrap64 b := by unfold wrap64; omega
theorem w64_lo (n : Int) : -9223372036854775808 ≤ wrap64 n := by unfold wrap64; omega
theorem w64_hi (n : Int) : wrap64 n < 9223372036854775808 := by unfold wrap64; omega
theorem int_wf {a : Int} (h : (Lit.int .i64 a).wf = true) : -9223372036854775808 ≤ a ∧ a ≤ 9223372036854775807 := by
  simp [Lit.wf] at h
  exact ⟨h.1, h.2⟩

/-! ### first places in lists -/
theorem rd_get {xs : List Int} {i : Nat} (h : i < xs.length) : rd xs (i : Int) = xs[i] := by
  simp [rd, List.getD_eq_getElem?_getD, List.getElem?_eq_getElem h]
/-- The first place of s, or -1. -/
def ix (l : List Int) (s : Int) : Int := match l.findIdx? (fun x => x == s) with | some i => (i : Int) | none => -1
theorem ix_some {l : List Int} {s : Int} {i : Nat} (h : i < l.length) (he : l[i] = s) (hn : ∀ x ∈ l.take i, x ≠ s) : ix l s = i := by
  unfold ix
  rw [List.findIdx?_eq_some_iff_getElem.2 ⟨h, by simpa using he, fun j hj => ?_⟩]
  have := hn (l[j]'(by omega)) (List.mem_take_iff_getElem.2 ⟨j, by omega, rfl⟩)
  simpa using this
theorem ix_none {l : List Int} {s : Int} (hn : ∀ x ∈ l, x ≠ s) : ix l s = -1 := by
  unfold ix
  rw [List.findIdx?_eq_none_iff.2 (fun x hx => by simpa using hn x hx)]
theorem ix_mem {l : List Int} {s : Int} (h : s ∈ l) : ∃ i : Nat, ix l s = i ∧ ∃ hl : i < l.length, l[i] = s ∧ ∀ j (hj : j < i), l[j]'(by omega) ≠ s := by
  unfold ix
  cases hf : l.findIdx? (fun x => x == s) with
  | none =>
    have := List.findIdx?_eq_none_iff.1 hf s h
    simp at this
  | some i =>
    obtain ⟨hl, he, hn⟩ := List.findIdx?_eq_some_iff_getElem.1 hf
    exact ⟨i, rfl, hl, by simpa using he, fun j hj => by simpa using hn j hj⟩
theorem take_ne_succ {l : List Int} {s : Int} {i : Nat} (h : i < l.length) (hne : ¬ l[i] = s) (hn : ∀ x ∈ l.take i, x ≠ s) : ∀ x ∈ l.take (i + 1), x ≠ s := by
  intro x hx
  rw [List.take_succ_eq_append_getElem h, List.mem_append] at hx
  rcases hx with hx | hx
  · exact hn x hx
  · simp at hx; rw [hx]; exact hne

theorem ix_range {l : List Int} {s : Int} : ix l s = -1 ∧ s ∉ l ∨ 0 ≤ ix l s ∧ ix l s < l.length ∧ s ∈ l := by
  by_cases h : s ∈ l
  · obtain ⟨i, e, hl, _⟩ := ix_mem h
    rw [e]; exact .inr ⟨by omega, by omega, h⟩
  · exact .inl ⟨ix_none (fun x hx he => h (he ▸ hx)), h⟩

/-! ### words on lists by their numbers -/
theorem rd_q (xs : List Int) (i : Nat) : rd xs (i : Int) = (xs[i]?).getD 0 := by simp [rd, List.getD_eq_getElem?_getD]
theorem rd_el {xs : List Int} {i : Nat} (h : i < xs.length) : rd xs (i : Int) = xs[i] := by rw [rd_q, List.getElem?_eq_getElem h]; rfl
theorem rd_mem {xs : List Int} {i : Nat} (h : i < xs.length) : rd xs (i : Int) ∈ xs := by rw [rd_el h]; exact List.getElem_mem h
theorem rd_ext {a b : List Int} (hl : a.length = b.length) (h : ∀ p < a.length, rd a (p : Int) = rd b (p : Int)) : a = b := by
  apply List.ext_getElem hl
  intro p h1 h2
  rw [← rd_el h1, ← rd_el h2]
  exact h p h1
theorem rd_set (xs : List Int) (i p : Nat) (v : Int) (hi : i < xs.length) : rd (xs.set i v) (p : Int) = if p = i then v else rd xs (p : Int) := by
  rw [rd_q, rd_q, List.getElem?_set]
  by_cases c : p = i
  · subst c; rw [if_pos rfl, if_pos rfl, if_pos hi]; rfl
  · rw [if_neg c, if_neg (fun h => c h.symm)]
theorem rd_rev {xs : List Int} {p : Nat} (h : p < xs.length) : rd xs.reverse (p : Int) = rd xs ((xs.length - 1 - p : Nat) : Int) := by
  rw [rd_el (by simpa using h), rd_el (by omega), List.getElem_reverse]
theorem rd_tab (f : Nat → Int) {n p : Nat} (h : p < n) : rd ((List.range n).map f) (p : Int) = f p := by
  rw [rd_el (by simpa using h)]; simp
theorem rd_cons0 (x : Int) (t : List Int) : rd (x :: t) 0 = x := rfl
theorem rd_append_left {a b : List Int} {p : Nat} (h : p < a.length) : rd (a ++ b) (p : Int) = rd a (p : Int) := by rw [rd_q, rd_q, List.getElem?_append_left h]
theorem rd_append_right {a b : List Int} {p : Nat} : rd (a ++ b) ((a.length + p : Nat) : Int) = rd b (p : Int) := by rw [rd_q, rd_q, List.getElem?_append_right (by omega)]; congr 2; omega
theorem rd_drop (a : List Int) (i p : Nat) : rd (a.drop i) (p : Int) = rd a ((i + p : Nat) : Int) := by rw [rd_q, rd_q, List.getElem?_drop]
theorem tab_succ (f : Nat → Int) (n : Nat) : (List.range (n + 1)).map f = (List.range n).map f ++ [f n] := by rw [List.range_succ, List.map_append]; rfl
/-! #### loops that compare -/
section
variable (L : Nat → List Int → List Int → Int → Int → Option Bool)
  (h0 : ∀ k x0 x1 x12 x13, L (k + 1) x0 x1 x12 x13 = if x13 < x12 then (if 0 ≤ x13 then (if x13 < (x0.length : Int) then (if x13 < (x1.length : Int) then (if (rd x0 x13) = (rd x1 x13) then (L k x0 x1 x12 (wrap64 (x13 + 1))) else (some false)) else (none)) else (none)) else (none)) else (some true))
include h0
theorem same_l0 (a b : List Int) (hl : a.length = b.length) (hb : (a.length : Int) ≤ 4611686018427387904) : Ev (fun k => L k a b (a.length : Int) 0) (decide (a = b)) := by
  have key : ∀ (d i : Nat), i + d = a.length → (∀ p < i, rd a (p : Int) = rd b (p : Int)) → Ev (fun k => L k a b (a.length : Int) (i : Int)) (decide (a = b)) := by
    intro d
    induction d with
    | zero =>
      intro i hi hp
      rw [decide_eq_true (rd_ext hl (fun p h => hp p (by omega)))]
      exact Ev.step (fun k => h0 k _ _ _ _) (Ev.neg (by omega) (Ev.now _))
    | succ d ih =>
      intro i hi hp
      have hw : wrap64 ((i : Int) + 1) = ((i + 1 : Nat) : Int) := by rw [w64 (by omega) (by omega)]; omega
      refine Ev.step (fun k => h0 k _ _ _ _) (Ev.pos (by omega) (Ev.pos (by omega) (Ev.pos (by omega) (Ev.pos (by omega) ?_))))
      by_cases c : rd a (i : Int) = rd b (i : Int)
      · refine Ev.pos c ?_
        rw [hw]
        exact ih (i + 1) (by omega) (fun p h => by
          by_cases e : p = i
          · rw [e]; exact c
          · exact hp p (by omega))
      · rw [decide_eq_false (fun e => c (by rw [e]))]
        exact Ev.neg c (Ev.now _)
  exact key a.length 0 (by omega) (fun p h => by omega)
end
section
variable (L : Nat → List Int → List Int → Int → Option (List Int))
  (h0 : ∀ k x0 x3 x4, L (k + 1) x0 x3 x4 = if x4 ≥ 0 then (if 0 ≤ x4 then (if x4 < (x0.length : Int) then (if x3.length < 17592186044416 then (L k x0 (x3 ++ [rd x0 x4]) (wrap64 (x4 - 1))) else (none)) else (none)) else (none)) else (some x3))
include h0
theorem back_l0 (a : List Int) (hb : (a.length : Int) ≤ 1048576) : Ev (fun k => L k a [] (wrap64 ((a.length : Int) - 1))) a.reverse := by
  have key : ∀ (i : Nat) (acc : List Int), i ≤ a.length → acc.length + i = a.length → acc = (a.drop i).reverse → Ev (fun k => L k a acc ((i : Int) - 1)) a.reverse := by
    intro i
    induction i with
    | zero =>
      intro acc hi hl he
      rw [he, List.drop_zero]
      exact Ev.step (fun k => h0 k _ _ _) (Ev.neg (by omega) (Ev.now _))
    | succ i ih =>
      intro acc hi hl he
      have e : ((i + 1 : Nat) : Int) - 1 = (i : Int) := by omega
      have hw : wrap64 ((i : Int) - 1) = (i : Int) - 1 := w64 (by omega) (by omega)
      rw [e]
      refine Ev.step (fun k => h0 k _ _ _) (Ev.pos (by omega) (Ev.pos (by omega) (Ev.pos (by omega) (Ev.pos (by omega) ?_))))
      rw [hw]
      refine ih (acc ++ [rd a (i : Int)]) (by omega) (by simp; omega) ?_
      rw [he, List.drop_eq_getElem_cons (show i < a.length by omega), List.reverse_cons, rd_el (by omega)]
  have hw : wrap64 ((a.length : Int) - 1) = (a.length : Int) - 1 := w64 (by omega) (by omega)
  rw [hw]
  exact key a.length [] (by omega) (by simp) (by simp)
end

/-! ### bounds -/
theorem in_f (a b c : Int) : impl_in.f a b c = spec_l1In.f a b c := rfl
theorem l1In_f (a b c : Int) : spec_l1In.f a b c = some (decide (b ≤ a ∧ a ≤ c)) := by
  unfold spec_l1In.f
  by_cases h : b ≤ a
  · rw [if_pos h]; simp [h]
  · rw [if_neg h]; simp [h]

/-! ### lists of numbers within bounds -/
theorem drop_rd {xs : List Int} {i : Nat} {y : Int} {r : List Int} (h : xs.drop i = y :: r) : rd xs (i : Int) = y := by
  have := congrArg (·[0]?) h
  rw [rd_q]
  simp at this
  rw [this]; rfl
theorem drop_tail {xs : List Int} {i : Nat} {y : Int} {r : List Int} (h : xs.drop i = y :: r) : xs.drop (i + 1) = r := by
  rw [← List.tail_drop, h]; rfl
theorem l1All_ev (lo hi : Int) (w : List Int) (hw : (w.length : Int) ≤ 1048576) : Ev (fun k => spec_l1All.f k w lo hi) (w.all fun x => decide (lo ≤ x ∧ x ≤ hi)) := by
  have key : ∀ (r : List Int) (i : Nat), w.drop i = r → i + r.length = w.length → Ev (fun k => spec_l1All.l0 k lo hi w (w.length : Int) (i : Int)) (r.all fun x => decide (lo ≤ x ∧ x ≤ hi)) := by
    intro r
    induction r with
    | nil =>
      intro i h hl
      simp only [List.length_nil] at hl
      rw [List.all_nil]
      exact Ev.step (fun k => by rw [spec_l1All.l0]) (Ev.neg (by omega) (Ev.now _))
    | cons y r ih =>
      intro i h hl
      simp only [List.length_cons] at hl
      have hw1 : wrap64 ((i : Int) + 1) = ((i + 1 : Nat) : Int) := by rw [w64 (by omega) (by omega)]; omega
      refine Ev.step (fun k => by rw [spec_l1All.l0]) (Ev.pos (by omega) (Ev.pos (by omega) (Ev.pos (by omega) ?_)))
      rw [drop_rd h, hw1, List.all_cons]
      refine Ev.pure_bind (l1In_f y lo hi) ?_
      cases decide (lo ≤ y ∧ y ≤ hi) with
      | true => exact Ev.pos rfl (ih (i + 1) (drop_tail h) (by omega))
      | false => exact Ev.neg (by simp) (Ev.now _)
  exact key w 0 rfl (by simp)
theorem areIn_ok (lo hi : Int) (w : List Int) : impl_areIn.ok lo hi w = w.all fun x => decide (lo ≤ x ∧ x ≤ hi) := by
  unfold impl_areIn.ok
  induction w with
  | nil => rfl
  | cons y r ih =>
    rw [List.any_cons, List.all_cons, Bool.not_or, ih, Bool.not_not]

/-! ### slices.Reverse -/
theorem reverse_ev (l : List Int) (hb : (l.length : Int) ≤ 1048576) : Ev (fun k => slices_Reverse_int_int.f k l) l.reverse := by
  have key : ∀ (d t : Nat) (x : List Int), l.length ≤ 2 * t + d → t ≤ l.length → x.length = l.length → (∀ p < l.length, rd x (p : Int) = if p < t ∨ l.length - t ≤ p then rd l ((l.length - 1 - p : Nat) : Int) else rd l (p : Int)) →
      Ev (fun k => slices_Reverse_int_int.l0 k x (t : Int) ((l.length : Int) - 1 - t)) l.reverse := by
    intro d
    induction d with
    | zero =>
      intro t x h1 h2 h3 h4
      have he : x = l.reverse := by
        apply rd_ext (by simp [h3])
        intro p hp
        rw [h4 p (by omega), rd_rev (by omega), if_pos (by omega)]
      rw [← he]
      exact Ev.step (fun k => by rw [slices_Reverse_int_int.l0]) (Ev.neg (by omega) (Ev.now _))
    | succ d ih =>
      intro t x h1 h2 h3 h4
      by_cases c : (t : Int) < (l.length : Int) - 1 - t
      · have hw1 : wrap64 ((t : Int) + 1) = ((t + 1 : Nat) : Int) := by rw [w64 (by omega) (by omega)]; omega
        have hw2 : wrap64 ((l.length : Int) - 1 - t - 1) = (l.length : Int) - 1 - ((t + 1 : Nat) : Int) := by rw [w64 (by omega) (by omega)]; omega
        have hj : (l.length : Int) - 1 - t = ((l.length - 1 - t : Nat) : Int) := by omega
        refine Ev.step (fun k => by rw [slices_Reverse_int_int.l0]) (Ev.pos c (Ev.pos (by omega) (Ev.pos (by omega) (Ev.pos (by omega) (Ev.pos (by omega) ?_)))))
        rw [hw1, hw2, hj, Int.toNat_natCast, Int.toNat_natCast]
        refine ih (t + 1) _ (by omega) (by omega) (by simp [h3]) (fun p hp => ?_)
        rw [rd_set _ _ _ _ (by simp [h3]; omega), rd_set _ _ _ _ (by omega), h4 p hp, h4 t (by omega), h4 (l.length - 1 - t) (by omega)]
        by_cases e1 : p = l.length - 1 - t
        · rw [if_pos e1, if_neg (by omega), if_pos (by omega), e1]; congr 1; omega
        · rw [if_neg e1]
          by_cases e2 : p = t
          · rw [if_pos e2, if_neg (by omega), if_pos (by omega), e2]
          · rw [if_neg e2]
            by_cases e3 : p < t ∨ l.length - t ≤ p
            · rw [if_pos e3, if_pos (by omega)]
            · rw [if_neg e3, if_neg (by omega)]
      · have he : x = l.reverse := by
          apply rd_ext (by simp [h3])
          intro p hp
          rw [h4 p (by omega), rd_rev (by omega)]
          by_cases e : p < t ∨ l.length - t ≤ p
          · rw [if_pos e]
          · rw [if_neg e]; congr 1; omega
        rw [← he]
        exact Ev.step (fun k => by rw [slices_Reverse_int_int.l0]) (Ev.neg c (Ev.now _))
  unfold slices_Reverse_int_int.f
  have hw : wrap64 ((l.length : Int) - 1) = (l.length : Int) - 1 := w64 (by omega) (by omega)
  rw [hw]
  have := key l.length 0 l (by omega) (by omega) rfl (fun p hp => by rw [if_neg (by omega)])
  simpa using this

/-! ### the cursor's draws: always there, and within their bounds -/
theorem u64_wraps (n : Int) (h0 : 0 ≤ n) (h1 : n < 2 ^ 64) : IntKind.u64.wrap n = n := by simp [IntKind.wrap, IntKind.bits, IntKind.signed]; omega
theorem u64_range (n : Int) : 0 ≤ IntKind.u64.wrap n ∧ IntKind.u64.wrap n < 18446744073709551616 := by
  simp [IntKind.wrap, IntKind.bits, IntKind.signed]
  omega
theorem and255 (x : Int) (h0 : 0 ≤ x) (h1 : x < 18446744073709551616) : Go.bits .and .u64 x 255 = x % 256 :=
  Go.bits_mask .u64 64 (by decide) u64_wraps 8 (by decide) x h0 (by simpa using h1)
theorem top255 (n : Int) : 0 ≤ wrap64 (Go.bits .and .u64 (IntKind.u64.wrap n / 1099511627776) 255) ∧ wrap64 (Go.bits .and .u64 (IntKind.u64.wrap n / 1099511627776) 255) ≤ 255 := by
  have h := u64_range n
  generalize IntKind.u64.wrap n = m at h
  rw [and255 _ (by omega) (by omega), w64 (by omega) (by omega)]
  omega
def Bytes (l : List Int) : Prop := ∀ i : Nat, 0 ≤ rd l (i : Int) ∧ rd l (i : Int) ≤ 255
theorem Bytes.of {l : List Int} (h : ∀ x ∈ l, (Lit.int .u8 x).wf = true) : Bytes l := by
  intro i
  have : ∀ x ∈ l, 0 ≤ x ∧ x ≤ 255 := fun x hx => by
    have := h x hx
    simp [Lit.wf] at this
    exact ⟨this.1, this.2⟩
  by_cases c : i < l.length
  · have e : rd l (i : Int) = l[i] := by simp [rd, List.getD_eq_getElem?_getD, c]
    rw [e]; exact this _ (List.getElem_mem c)
  · have e : rd l (i : Int) = 0 := by simp [rd, List.getD_eq_getElem?_getD, c]
    rw [e]; omega
theorem next_ev (l : List Int) (hl : Bytes l) (p s : Int) (hp : 0 ≤ p ∧ p ≤ 4611686018427387904) : ∃ v t, spec_l1Cur_next.f l p s = some (v, p + 1, t) ∧ 0 ≤ v ∧ v ≤ 255 := by
  have hw : wrap64 (p + 1) = p + 1 := w64 (by omega) (by omega)
  unfold spec_l1Cur_next.f
  rw [hw]
  by_cases c : p < (l.length : Int)
  · rw [if_pos c, if_pos hp.1, if_pos (by omega)]
    have hb := hl p.toNat
    rw [show ((p.toNat : Nat) : Int) = p by omega] at hb
    refine ⟨_, _, rfl, ?_⟩
    rw [w64 (by omega) (by omega)]
    exact hb
  · rw [if_neg c, if_neg (by omega)]
    exact ⟨_, _, rfl, top255 _⟩
/-- What a draw below n gives. -/
structure Drew (p n : Int) (v q : Int) : Prop where
  lo : 0 ≤ v
  hi : 1 < n → v < n
  one : n ≤ 1 → v = 0
  from_ : p ≤ q
  to_ : q ≤ p + 2
theorem pick_ev (l : List Int) (hl : Bytes l) (p s n : Int) (hp : 0 ≤ p ∧ p ≤ 4611686018427387000) : ∃ v q t, spec_l1Cur_pick.f l p s n = some (v, q, t) ∧ Drew p n v q := by
  unfold spec_l1Cur_pick.f
  by_cases c : n ≤ 1
  · rw [if_pos c]
    exact ⟨0, p, s, rfl, ⟨by omega, by omega, fun _ => rfl, by omega, by omega⟩⟩
  · rw [if_neg c]
    obtain ⟨v, t, e, h0, h1⟩ := next_ev l hl p s (by omega)
    rw [e, Option.bind_some]
    by_cases c2 : n > 200
    · rw [if_pos c2]
      obtain ⟨v2, t2, e2, g0, g1⟩ := next_ev l hl (p + 1) t (by omega)
      rw [e2, Option.bind_some, if_neg (by omega)]
      refine ⟨_, _, _, rfl, ?_⟩
      rw [w64 (n := v * 256) (by omega) (by omega), w64 (by omega) (by omega)]
      exact ⟨Int.tmod_nonneg _ (by omega), fun _ => Int.tmod_lt_of_pos _ (by omega), fun h => absurd h c, by dsimp only; omega, by dsimp only; omega⟩
    · rw [if_neg c2, if_neg (by omega)]
      exact ⟨_, _, _, rfl, ⟨Int.tmod_nonneg _ h0, fun _ => Int.tmod_lt_of_pos _ (by omega), fun h => absurd h c, by dsimp only; omega, by dsimp only; omega⟩⟩
theorem among_ev (l : List Int) (hl : Bytes l) (p s : Int) (hp : 0 ≤ p ∧ p ≤ 4611686018427387000) (xs : List Int) (h : 0 < xs.length) : ∃ v q t, spec_l1Cur_among.f l p s xs = some (v, q, t) ∧ v ∈ xs ∧ p ≤ q ∧ q ≤ p + 2 := by
  obtain ⟨v, q, t, e, d⟩ := pick_ev l hl p s xs.length hp
  have hlt : v < (xs.length : Int) := by
    by_cases c : 1 < (xs.length : Int)
    · exact d.hi c
    · have := d.one (by omega); omega
  have h0 := d.lo
  unfold spec_l1Cur_among.f
  rw [e, Option.bind_some, if_pos h0, if_pos hlt]
  refine ⟨_, _, _, rfl, ?_, d.from_, d.to_⟩
  have e : rd xs v = xs[v.toNat]'(by omega) := by simp [rd, List.getD_eq_getElem?_getD, show v.toNat < xs.length by omega]
  rw [e]
  exact List.getElem_mem _
theorem one_ev (l : List Int) (hl : Bytes l) (p s n : Int) (hp : 0 ≤ p ∧ p ≤ 4611686018427387000) : ∃ b q t, spec_l1Cur_one.f l p s n = some (b, q, t) ∧ p ≤ q ∧ q ≤ p + 2 := by
  obtain ⟨v, q, t, e, d⟩ := pick_ev l hl p s n hp
  unfold spec_l1Cur_one.f
  rw [e, Option.bind_some]
  exact ⟨_, _, _, rfl, d.from_, d.to_⟩
theorem big_f (a b : List Int) : laws_big.f a b = some (decide (1048576 < (a.length : Int) ∨ 1048576 < (a.length : Int) + (b.length : Int))) := by
  unfold laws_big.f
  by_cases c : (a.length : Int) > 1048576
  · rw [if_pos c, decide_eq_true (.inl c)]
  · rw [if_neg c, w64 (by omega) (by omega)]
    congr 1
    apply decide_eq_decide.2
    omega

/-! ### digits of numbers -/
/-- The digits of n, the last one first; none for 0. -/
def lowd (b : Int) : Nat → Int → List Int
  | 0, _ => []
  | f + 1, n => if n ≤ 0 then [] else (n % b) :: lowd b f (n / b)
/-- The number with digits, the last one first. -/
def lowv (b : Int) : List Int → Int
  | [] => 0
  | d :: t => d + b * lowv b t
/-- The digits of n, the first one first. -/
def dgs (b n : Int) : List Int := if n = 0 then [0] else (lowd b 41 n).reverse
/-- The number with digits, the first one first, behind what stands ahead of them. -/
def hval (b : Int) : Int → List Int → Int
  | a, [] => a
  | a, d :: t => hval b (a * b + d) t
theorem div_lt_pow {b n : Int} {f : Nat} (hb : 2 ≤ b) (h0 : 0 ≤ n) (h : n < 2 ^ (f + 1)) : 0 ≤ n / b ∧ n / b < 2 ^ f := by
  have h1 : 0 ≤ n / b := Int.ediv_nonneg h0 (by omega)
  refine ⟨h1, ?_⟩
  apply Int.ediv_lt_of_lt_mul (by omega)
  have : (2 : Int) ^ (f + 1) = 2 ^ f * 2 := Int.pow_succ _ _
  have hp : (0 : Int) < 2 ^ f := Int.pow_pos (by omega)
  have : (2 : Int) ^ f * 2 ≤ 2 ^ f * b := Int.mul_le_mul_of_nonneg_left hb (by omega)
  omega
theorem lowd_zero (b : Int) (f : Nat) {n : Int} (h : n ≤ 0) : lowd b f n = [] := by
  cases f with
  | zero => rfl
  | succ f => simp [lowd, h]
theorem lowd_pos (b : Int) (f : Nat) {n : Int} (h : ¬ n ≤ 0) : lowd b (f + 1) n = (n % b) :: lowd b f (n / b) := by simp [lowd, h]
theorem lowd_fuel {b : Int} (hb : 2 ≤ b) : ∀ (f g : Nat) (n : Int), 0 ≤ n → n < 2 ^ f → n < 2 ^ g → lowd b f n = lowd b g n := by
  intro f
  induction f with
  | zero => intro g n h0 h1 _; rw [lowd_zero b 0 (by simp at h1; omega), lowd_zero b g (by simp at h1; omega)]
  | succ f ih =>
    intro g n h0 h1 h2
    by_cases c : n ≤ 0
    · rw [lowd_zero b _ c, lowd_zero b _ c]
    · cases g with
      | zero => simp at h2; omega
      | succ g =>
        rw [lowd_pos b f c, lowd_pos b g c, ih g _ (div_lt_pow hb h0 h1).1 (div_lt_pow hb h0 h1).2 (div_lt_pow hb h0 h2).2]
theorem lowv_lowd {b : Int} (hb : 2 ≤ b) : ∀ (f : Nat) (n : Int), 0 ≤ n → n < 2 ^ f → lowv b (lowd b f n) = n := by
  intro f
  induction f with
  | zero => intro n h0 h1; simp at h1; rw [lowd_zero b 0 (by omega)]; simp [lowv]; omega
  | succ f ih =>
    intro n h0 h1
    by_cases c : n ≤ 0
    · rw [lowd_zero b _ c]; simp [lowv]; omega
    · rw [lowd_pos b f c]
      simp only [lowv]
      rw [ih _ (div_lt_pow hb h0 h1).1 (div_lt_pow hb h0 h1).2]
      exact Int.emod_add_mul_ediv n b
theorem lowd_range {b : Int} (hb : 2 ≤ b) : ∀ (f : Nat) (n : Int), ∀ x ∈ lowd b f n, 0 ≤ x ∧ x < b := by
  intro f
  induction f with
  | zero => intro n x hx; simp [lowd] at hx
  | succ f ih =>
    intro n x hx
    by_cases c : n ≤ 0
    · rw [lowd_zero b _ c] at hx; cases hx
    · rw [lowd_pos b f c] at hx
      rcases List.mem_cons.1 hx with rfl | hx
      · exact ⟨Int.emod_nonneg _ (by omega), Int.emod_lt_of_pos _ (by omega)⟩
      · exact ih _ x hx
theorem lowd_length {b : Int} : ∀ (f : Nat) (n : Int), (lowd b f n).length ≤ f := by
  intro f
  induction f with
  | zero => intro n; simp [lowd]
  | succ f ih =>
    intro n
    by_cases c : n ≤ 0
    · rw [lowd_zero b _ c]; simp
    · rw [lowd_pos b f c]; simp; exact ih _
theorem lowd_ne_nil {b : Int} (f : Nat) {n : Int} (h : 0 < n) : lowd b (f + 1) n ≠ [] := by rw [lowd_pos b f (by omega)]; simp
/-- The first digit (that is the last one here) is not 0. -/
theorem lowd_last {b : Int} (hb : 2 ≤ b) : ∀ (f : Nat) (n : Int), 0 ≤ n → n < 2 ^ f → ∀ x, (lowd b f n).getLast? = some x → 0 < x := by
  intro f
  induction f with
  | zero => intro n _ _ x hx; simp [lowd] at hx
  | succ f ih =>
    intro n h0 h1 x hx
    by_cases c : n ≤ 0
    · rw [lowd_zero b _ c] at hx; cases hx
    · rw [lowd_pos b f c] at hx
      obtain ⟨hd0, hd1⟩ := div_lt_pow hb h0 h1
      by_cases e : n / b ≤ 0
      · rw [lowd_zero b f e] at hx
        simp at hx
        have := Int.emod_add_mul_ediv n b
        have e0 : n / b = 0 := by omega
        rw [e0, Int.mul_zero] at this
        omega
      · have hne : lowd b f (n / b) ≠ [] := by
          cases f with
          | zero => simp at hd1; omega
          | succ f => exact lowd_ne_nil f (by omega)
        rw [List.getLast?_cons, ] at hx
        cases hl : (lowd b f (n / b)).getLast? with
        | none => rw [List.getLast?_eq_none_iff] at hl; exact absurd hl hne
        | some y =>
          rw [hl] at hx
          simp at hx
          subst hx
          exact ih _ hd0 hd1 _ hl
theorem hval_nil (b a : Int) : hval b a [] = a := rfl
theorem hval_cons (b a d : Int) (t : List Int) : hval b a (d :: t) = hval b (a * b + d) t := rfl
theorem hval_append (b : Int) : ∀ (l m : List Int) (a : Int), hval b a (l ++ m) = hval b (hval b a l) m := by
  intro l
  induction l with
  | nil => intro m a; rfl
  | cons d t ih => intro m a; exact ih m _
theorem hval_rev (b : Int) : ∀ (l : List Int), hval b 0 l.reverse = lowv b l := by
  intro l
  induction l with
  | nil => rfl
  | cons d t ih =>
    rw [List.reverse_cons, hval_append, ih]
    simp only [hval, lowv]
    rw [Int.mul_comm]; omega
theorem lowv_eq (b : Int) (l : List Int) : lowv b l = hval b 0 l.reverse := (hval_rev b l).symm
theorem lowv_nonneg {b : Int} (hb : 2 ≤ b) : ∀ (l : List Int), (∀ x ∈ l, 0 ≤ x) → 0 ≤ lowv b l := by
  intro l
  induction l with
  | nil => intro _; simp [lowv]
  | cons d t ih =>
    intro h
    have h1 := ih (fun x hx => h x (List.mem_cons_of_mem _ hx))
    have h2 := h d List.mem_cons_self
    have h3 : 0 ≤ b * lowv b t := Int.mul_nonneg (by omega) h1
    simp only [lowv]; omega
theorem hval_ge {b : Int} (hb : 2 ≤ b) : ∀ (l : List Int) (a : Int), 0 ≤ a → (∀ x ∈ l, 0 ≤ x) → a ≤ hval b a l := by
  intro l
  induction l with
  | nil => intro a _ _; exact Int.le_refl _
  | cons d t ih =>
    intro a h0 h
    have h1 : a * 2 ≤ a * b := Int.mul_le_mul_of_nonneg_left hb h0
    have h2 := h d List.mem_cons_self
    have := ih (a * b + d) (by omega) (fun x hx => h x (List.mem_cons_of_mem _ hx))
    simp only [hval]; omega
/-- Digits, the last one first, are told by their number. -/
theorem lowd_lowv {b : Int} (hb : 2 ≤ b) : ∀ (l : List Int) (f : Nat), (∀ x ∈ l, 0 ≤ x ∧ x < b) → (∀ x, l.getLast? = some x → 0 < x) → lowv b l < 2 ^ f → lowd b f (lowv b l) = l := by
  intro l
  induction l with
  | nil => intro f _ _ _; exact lowd_zero b f (by simp [lowv])
  | cons d t ih =>
    intro f hr hl hf
    have hd := hr d List.mem_cons_self
    have ht : ∀ x ∈ t, 0 ≤ x ∧ x < b := fun x hx => hr x (List.mem_cons_of_mem _ hx)
    have hv := lowv_nonneg hb t (fun x hx => (ht x hx).1)
    have hm : (d + b * lowv b t) % b = d := by rw [Int.add_mul_emod_self_left]; exact Int.emod_eq_of_lt hd.1 hd.2
    have hq : (d + b * lowv b t) / b = lowv b t := by
      rw [Int.add_mul_ediv_left _ _ (by omega), Int.ediv_eq_zero_of_lt hd.1 hd.2]; omega
    have hpos : 0 < lowv b (d :: t) := by
      simp only [lowv]
      cases t with
      | nil =>
        have := hl d (by simp)
        simp only [lowv]; omega
      | cons e u =>
        have h1 : 0 < lowv b (e :: u) := by
          rcases Int.lt_or_eq_of_le hv with h | h
          · exact h
          · exfalso
            -- all digits would be 0
            have key : ∀ (l : List Int), (∀ x ∈ l, 0 ≤ x ∧ x < b) → lowv b l = 0 → ∀ x ∈ l, x = 0 := by
              intro l
              induction l with
              | nil => intro _ _ x hx; cases hx
              | cons y l ih2 =>
                intro hr2 h0 x hx
                have h3 := lowv_nonneg hb l (fun x hx => (hr2 x (List.mem_cons_of_mem _ hx)).1)
                have h4 := (hr2 y List.mem_cons_self).1
                simp only [lowv] at h0
                have h5 : 2 * lowv b l ≤ b * lowv b l := Int.mul_le_mul_of_nonneg_right hb h3
                have h6 : lowv b l = 0 := by omega
                rcases List.mem_cons.1 hx with rfl | hx
                · rw [h6] at h0; omega
                · exact ih2 (fun x hx => hr2 x (List.mem_cons_of_mem _ hx)) h6 x hx
            cases hlast : (e :: u).getLast? with
            | none => simp at hlast
            | some z =>
              have hz := hl z (by rw [List.getLast?_cons, hlast]; rfl)
              have := key (e :: u) ht h.symm z (List.mem_of_getLast? hlast)
              omega
        have h2 : 2 * lowv b (e :: u) ≤ b * lowv b (e :: u) := Int.mul_le_mul_of_nonneg_right hb hv
        omega
    cases f with
    | zero => simp at hf; omega
    | succ f =>
      rw [lowd_pos b f (by omega)]
      simp only [lowv] at hf ⊢
      rw [hm, hq]
      have hdiv := div_lt_pow hb (show 0 ≤ d + b * lowv b t by have := Int.mul_nonneg (show (0 : Int) ≤ b by omega) hv; omega) hf
      rw [hq] at hdiv
      rw [ih f ht (fun x hx => hl x (by rw [List.getLast?_cons, hx]; rfl)) hdiv.2]

/-! ### digits of numbers: the list, the first one first -/
/-- The digits of some number. -/
def Canon (b : Int) (l : List Int) : Prop := l ≠ [] ∧ (∀ x ∈ l, 0 ≤ x ∧ x < b) ∧ (l.length = 1 ∨ ∀ x, l.head? = some x → 0 < x)
theorem two40 {n : Int} (h : n ≤ 1000000000000) : n < 2 ^ 40 ∧ n < 2 ^ 41 := by
  have : (2 : Int) ^ 40 = 1099511627776 := by decide
  have : (2 : Int) ^ 41 = 2199023255552 := by decide
  omega
theorem dgs_zero (b : Int) : dgs b 0 = [0] := rfl
theorem dgs_pos (b : Int) {n : Int} (h : n ≠ 0) : dgs b n = (lowd b 41 n).reverse := by unfold dgs; rw [if_neg h]
theorem dgs_range {b n : Int} (hb : 2 ≤ b) : ∀ x ∈ dgs b n, 0 ≤ x ∧ x < b := by
  intro x hx
  by_cases c : n = 0
  · subst c; simp [dgs] at hx; omega
  · rw [dgs_pos b c, List.mem_reverse] at hx
    exact lowd_range hb _ _ x hx
theorem dgs_length {b n : Int} (hb : 2 ≤ b) (h0 : 0 ≤ n) (h1 : n ≤ 1000000000000) : 1 ≤ (dgs b n).length ∧ (dgs b n).length ≤ 40 := by
  by_cases c : n = 0
  · subst c; simp [dgs]
  · rw [dgs_pos b c, List.length_reverse, lowd_fuel hb 41 40 n h0 (two40 h1).2 (two40 h1).1]
    refine ⟨?_, lowd_length _ _⟩
    rcases Nat.eq_zero_or_pos (lowd b 40 n).length with h | h
    · exact absurd (List.length_eq_zero_iff.1 h) (lowd_ne_nil 39 (by omega))
    · exact h
theorem dgs_ne_nil {b n : Int} (h0 : 0 ≤ n) : dgs b n ≠ [] := by
  by_cases c : n = 0
  · subst c; simp [dgs]
  · rw [dgs_pos b c]; intro h; exact lowd_ne_nil 40 (show 0 < n by omega) (List.reverse_eq_nil_iff.1 h)
theorem hval_dgs {b n : Int} (hb : 2 ≤ b) (h0 : 0 ≤ n) (h1 : n ≤ 1000000000000) : hval b 0 (dgs b n) = n := by
  by_cases c : n = 0
  · subst c; simp [dgs, hval]
  · rw [dgs_pos b c, hval_rev, lowv_lowd hb _ _ h0 (two40 h1).2]
theorem dgs_canon {b n : Int} (hb : 2 ≤ b) (h0 : 0 ≤ n) (h1 : n ≤ 1000000000000) : Canon b (dgs b n) := by
  refine ⟨dgs_ne_nil h0, dgs_range hb, ?_⟩
  by_cases c : n = 0
  · subst c; exact .inl rfl
  · refine .inr fun x hx => ?_
    rw [dgs_pos b c, List.head?_reverse] at hx
    exact lowd_last hb 41 n h0 (two40 h1).2 x hx
theorem dgs_hval {b : Int} (hb : 2 ≤ b) {l : List Int} (h : Canon b l) (h1 : hval b 0 l ≤ 1000000000000) : dgs b (hval b 0 l) = l := by
  obtain ⟨hne, hr, hh⟩ := h
  have e : hval b 0 l = lowv b l.reverse := by rw [lowv_eq, List.reverse_reverse]
  have hrr : ∀ x ∈ l.reverse, 0 ≤ x ∧ x < b := fun x hx => hr x (List.mem_reverse.1 hx)
  by_cases c : hval b 0 l = 0
  · rw [c]
    rcases hh with hh | hh
    · obtain ⟨x, rfl⟩ := List.length_eq_one_iff.1 hh
      simp [hval] at c
      rw [c]; rfl
    · exfalso
      cases l with
      | nil => exact hne rfl
      | cons d t =>
        have hd := hh d rfl
        have := hval_ge hb t (0 * b + d) (by omega) (fun x hx => (hr x (List.mem_cons_of_mem _ hx)).1)
        simp only [hval] at c
        omega
  · rw [dgs_pos b c, e]
    rcases hh with hh | hh
    · obtain ⟨x, rfl⟩ := List.length_eq_one_iff.1 hh
      have hx := hr x (by simp)
      simp [hval] at c
      rw [lowd_lowv hb _ _ hrr (fun y hy => by simp at hy; omega) (by rw [← e]; exact (two40 h1).2)]
      rfl
    · rw [lowd_lowv hb _ _ hrr (fun y hy => hh y (by rw [List.getLast?_reverse] at hy; exact hy)) (by rw [← e]; exact (two40 h1).2), List.reverse_reverse]
/-! ### sums of digits -/
def lsum : List Int → Int
  | [] => 0
  | d :: t => d + lsum t
theorem lsum_append : ∀ (l m : List Int), lsum (l ++ m) = lsum l + lsum m := by
  intro l
  induction l with
  | nil => intro m; simp [lsum]
  | cons d t ih => intro m; simp only [List.cons_append, lsum, ih]; omega
theorem lsum_reverse : ∀ (l : List Int), lsum l.reverse = lsum l := by
  intro l
  induction l with
  | nil => rfl
  | cons d t ih => rw [List.reverse_cons, lsum_append, ih]; simp [lsum]; omega
theorem lsum_nonneg : ∀ (l : List Int), (∀ x ∈ l, 0 ≤ x) → 0 ≤ lsum l := by
  intro l
  induction l with
  | nil => intro _; simp [lsum]
  | cons d t ih =>
    intro h
    have := ih (fun x hx => h x (List.mem_cons_of_mem _ hx))
    have := h d List.mem_cons_self
    simp only [lsum]; omega
theorem lsum_le : ∀ (l : List Int) (m : Int), (∀ x ∈ l, x ≤ m) → lsum l ≤ l.length * m := by
  intro l
  induction l with
  | nil => intro m _; simp [lsum]
  | cons d t ih =>
    intro m h
    have h1 := ih m (fun x hx => h x (List.mem_cons_of_mem _ hx))
    have h2 := h d List.mem_cons_self
    simp only [lsum, List.length_cons]
    rw [show ((t.length + 1 : Nat) : Int) * m = t.length * m + m by rw [Int.natCast_add, Int.add_mul]; simp]
    omega
/-- A number less its sum of digits: divided by the base less one, and more than 0 from the base on. -/
theorem lowv_lsum {b : Int} (hb : 2 ≤ b) : ∀ (l : List Int), (∀ x ∈ l, 0 ≤ x) → ∃ q, lowv b l - lsum l = (b - 1) * q ∧ 0 ≤ q ∧ (0 < lowv b (l.drop 1) → 0 < q) := by
  intro l
  induction l with
  | nil => intro _; exact ⟨0, by simp [lowv, lsum], by omega, by simp [lowv]⟩
  | cons d t ih =>
    intro h
    have ht := fun x hx => h x (List.mem_cons_of_mem d hx)
    obtain ⟨q, e, h0, _⟩ := ih ht
    have hv := lowv_nonneg hb t ht
    refine ⟨lowv b t + q, ?_, by omega, fun hp => ?_⟩
    · simp only [lowv, lsum]
      rw [Int.mul_add, ← e, Int.sub_mul]
      omega
    · simp only [List.drop_succ_cons, List.drop_zero] at hp
      omega
/-- The sum of the digits of a number. -/
def dsum (b n : Int) : Int := lsum (dgs b n)
theorem dsum_eq {b n : Int} (h0 : 0 ≤ n) : dsum b n = lsum (lowd b 41 n) := by
  unfold dsum
  by_cases c : n = 0
  · subst c; rfl
  · rw [dgs_pos b c, lsum_reverse]
theorem dsum_div {b n : Int} (hb : 2 ≤ b) (h0 : 0 ≤ n) (h1 : n ≤ 1000000000000) : ∃ q, n - dsum b n = (b - 1) * q ∧ 0 ≤ q ∧ (b ≤ n → 0 < q) := by
  obtain ⟨q, e, hq, hp⟩ := lowv_lsum hb (lowd b 41 n) (fun x hx => (lowd_range hb _ _ x hx).1)
  rw [lowv_lowd hb _ _ h0 (two40 h1).2, ← dsum_eq h0] at e
  refine ⟨q, e, hq, fun hbn => hp ?_⟩
  rw [lowd_pos b 40 (by omega)]
  simp only [List.drop_succ_cons, List.drop_zero]
  rw [lowv_lowd hb _ _ (div_lt_pow hb h0 (two40 h1).2).1 (div_lt_pow hb h0 (two40 h1).2).2]
  have : b / b ≤ n / b := Int.ediv_le_ediv (by omega) hbn
  rw [Int.ediv_self (by omega)] at this
  omega
theorem dsum_nonneg {b n : Int} (hb : 2 ≤ b) : 0 ≤ dsum b n := lsum_nonneg _ (fun x hx => (dgs_range hb x hx).1)
theorem dsum_le {b n : Int} (hb : 2 ≤ b) (h0 : 0 ≤ n) (h1 : n ≤ 1000000000000) : dsum b n ≤ n := by
  obtain ⟨q, e, hq, _⟩ := dsum_div hb h0 h1
  have := Int.mul_nonneg (show 0 ≤ b - 1 by omega) hq
  omega
theorem dsum_lt {b n : Int} (hb : 2 ≤ b) (h0 : b ≤ n) (h1 : n ≤ 1000000000000) : dsum b n < n := by
  obtain ⟨q, e, hq, hp⟩ := dsum_div hb (by omega) h1
  have : 1 * q ≤ (b - 1) * q := Int.mul_le_mul_of_nonneg_right (by omega) hq
  have := hp h0
  omega
theorem dsum_pos {b n : Int} (hb : 2 ≤ b) (h0 : 0 < n) (h1 : n ≤ 1000000000000) : 0 < dsum b n := by
  rw [dsum_eq (by omega)]
  have hl := lowd_last hb 41 n (by omega) (two40 h1).2
  have hne := lowd_ne_nil (b := b) 40 h0
  have hr := fun x hx => (lowd_range hb 41 n x hx).1
  generalize lowd b 41 n = l at *
  have key : ∀ (l : List Int), (∀ x ∈ l, 0 ≤ x) → ∀ x ∈ l, x ≤ lsum l := by
    intro l
    induction l with
    | nil => intro _ x hx; cases hx
    | cons d t ih =>
      intro h x hx
      have h1 := lsum_nonneg t (fun x hx => h x (List.mem_cons_of_mem _ hx))
      have h2 := h d List.mem_cons_self
      simp only [lsum]
      rcases List.mem_cons.1 hx with rfl | hx
      · omega
      · have := ih (fun x hx => h x (List.mem_cons_of_mem _ hx)) x hx
        omega
  cases hg : l.getLast? with
  | none => rw [List.getLast?_eq_none_iff] at hg; exact absurd hg hne
  | some x =>
    have := hl x hg
    have := key l hr x (List.mem_of_getLast? hg)
    omega
theorem dgs_small {b n : Int} (hb : 2 ≤ b) (h0 : 0 ≤ n) (h1 : n < b) : dgs b n = [n] := by
  by_cases c : n = 0
  · subst c; rfl
  · rw [dgs_pos b c, lowd_pos b 40 (by omega), Int.emod_eq_of_lt h0 h1, Int.ediv_eq_zero_of_lt h0 h1, lowd_zero b 40 (by omega)]
    rfl

/-! ### digits: what the functions of chapter 1 tell -/
theorem tm_eq {a b : Int} (h : 0 ≤ a) : Int.tmod a b = a % b := Int.tmod_eq_emod_of_nonneg h
theorem td_eq {a b : Int} (h : 0 ≤ a) : Int.tdiv a b = a / b := Int.tdiv_eq_ediv_of_nonneg h
def baseB (b : Int) : Bool := decide (2 ≤ b ∧ b ≤ 16)
def askB (n b : Int) : Bool := decide (0 ≤ n ∧ n ≤ 1000000000000) && baseB b
structure Ask (n b : Int) : Prop where
  n0 : 0 ≤ n
  n1 : n ≤ 1000000000000
  b2 : 2 ≤ b
  b16 : b ≤ 16
theorem askB_iff (n b : Int) : askB n b = true ↔ Ask n b := by
  unfold askB baseB
  rw [Bool.and_eq_true, decide_eq_true_iff, decide_eq_true_iff]
  exact ⟨fun h => ⟨h.1.1, h.1.2, h.2.1, h.2.2⟩, fun h => ⟨⟨h.n0, h.n1⟩, h.b2, h.b16⟩⟩
theorem isBase_b (b : Int) : impl_isBase.f b = some (baseB b) := by unfold impl_isBase.f; rw [in_f, l1In_f]; rfl
theorem dgBase_b (b : Int) : spec_dgBase.f b = some (baseB b) := by unfold spec_dgBase.f; rw [l1In_f]; rfl
theorem isNumber_b (n b : Int) : impl_isNumber.f n b = some (askB n b) := by
  unfold impl_isNumber.f askB
  rw [in_f, l1In_f, Option.bind_some, isBase_b]
  cases decide (0 ≤ n ∧ n ≤ 1000000000000) <;> rfl
theorem dgAsked_b (n b : Int) : spec_dgAsked.f n b = some (askB n b) := by
  unfold spec_dgAsked.f spec_dgNumber.f askB
  rw [l1In_f, Option.bind_some, Option.bind_some, dgBase_b]
  cases decide (0 ≤ n ∧ n ≤ 1000000000000) <;> rfl
theorem tdiv_small {n b : Int} (h0 : 0 ≤ n) (h1 : n < 4611686018427387904) (hb : 2 ≤ b) : wrap64 (Int.tdiv n b) = n / b ∧ 0 ≤ n / b ∧ n / b ≤ n := by
  have h2 : 0 ≤ n / b := Int.ediv_nonneg h0 (by omega)
  have h3 : n / b ≤ n := Int.ediv_le_self _ h0
  rw [td_eq h0, w64 (by omega) (by omega)]
  exact ⟨rfl, h2, h3⟩
theorem digitsOf_ev {n b : Int} (A : Ask n b) : Ev (fun k => impl_digitsOf.f k n b) (dgs b n) := by
  have hb := A.b2
  have key : ∀ (f : Nat) (m : Int) (acc : List Int), 0 ≤ m → m < 2 ^ f → m < 4611686018427387904 → acc.length + f ≤ 100 → Ev (fun k => impl_digitsOf.l0 k m b acc) (acc ++ lowd b f m).reverse := by
    intro f
    induction f with
    | zero =>
      intro m acc h0 h1 _ h3
      have e : m = 0 := by simp at h1; omega
      subst e
      refine Ev.step (fun k => by rw [impl_digitsOf.l0]) (Ev.neg (by omega) ?_)
      rw [lowd_zero b 0 (by omega), List.append_nil]
      refine Ev.bind1 (reverse_ev acc (by omega)) (Ev.now _)
    | succ f ih =>
      intro m acc h0 h1 h2 h3
      by_cases c : m ≤ 0
      · have e : m = 0 := by omega
        subst e
        refine Ev.step (fun k => by rw [impl_digitsOf.l0]) (Ev.neg (by omega) ?_)
        rw [lowd_zero b _ (by omega), List.append_nil]
        exact Ev.bind1 (reverse_ev acc (by omega)) (Ev.now _)
      · obtain ⟨e1, e2, e3⟩ := tdiv_small h0 h2 hb
        refine Ev.step (fun k => by rw [impl_digitsOf.l0]) (Ev.pos (by omega) (Ev.neg (by omega) (Ev.pos (by omega) ?_)))
        rw [e1, tm_eq h0, lowd_pos b f c, show acc ++ m % b :: lowd b f (m / b) = (acc ++ [m % b]) ++ lowd b f (m / b) by simp]
        exact ih _ _ e2 (div_lt_pow hb h0 h1).2 (by omega) (by simp; omega)
  have hn0 := A.n0
  have hn1 := A.n1
  obtain ⟨e1, e2, e3⟩ := tdiv_small hn0 (by omega) hb
  refine Ev.congr (fun k => show impl_digitsOf.f k n b = _ from by unfold impl_digitsOf.f; rw [if_neg (by omega), e1, tm_eq hn0]) ?_
  have h := key 40 (n / b) [n % b] e2 (div_lt_pow hb hn0 (two40 hn1).2).2 (by omega) (by simp)
  have : ([n % b] ++ lowd b 40 (n / b)).reverse = dgs b n := by
    by_cases c : n = 0
    · subst c; simp [lowd_zero, dgs_zero]
    · rw [dgs_pos b c, lowd_pos b 40 (by omega)]; rfl
  rwa [this] at h
theorem dgOf_ev {n b : Int} (A : Ask n b) : Ev (fun k => spec_dgOf.f k n b) (dgs b n) := by
  have hb := A.b2
  have hn0 := A.n0
  by_cases c : n = 0
  · subst c
    exact Ev.congr (fun k => show spec_dgOf.f k 0 b = some [0] from by unfold spec_dgOf.f; rw [if_pos rfl]) (Ev.now _)
  · have key : ∀ (f : Nat) (m : Int) (acc : List Int), 0 ≤ m → m < 2 ^ f → m < 4611686018427387904 → acc.length + f ≤ 100 → Ev (fun k => spec_dgOf.l0 k m b acc) ((lowd b f m).reverse ++ acc) := by
      intro f
      induction f with
      | zero =>
        intro m acc h0 h1 _ h3
        have e : m = 0 := by simp at h1; omega
        subst e
        refine Ev.step (fun k => by rw [spec_dgOf.l0]) (Ev.neg (by omega) ?_)
        rw [lowd_zero b 0 (by omega)]
        exact Ev.now _
      | succ f ih =>
        intro m acc h0 h1 h2 h3
        by_cases c : m ≤ 0
        · have e : m = 0 := by omega
          subst e
          refine Ev.step (fun k => by rw [spec_dgOf.l0]) (Ev.neg (by omega) ?_)
          rw [lowd_zero b _ (by omega)]
          exact Ev.now _
        · obtain ⟨e1, e2, e3⟩ := tdiv_small h0 h2 hb
          refine Ev.step (fun k => by rw [spec_dgOf.l0, Option.bind_some]) (Ev.pos (by omega) (Ev.neg (by omega) (Ev.pos (by simp; omega) ?_)))
          rw [e1, tm_eq h0, lowd_pos b f c, show (m % b :: lowd b f (m / b)).reverse ++ acc = (lowd b f (m / b)).reverse ++ ([m % b] ++ acc) by simp]
          exact ih _ _ e2 (div_lt_pow hb h0 h1).2 (by omega) (by simp; omega)
    refine Ev.congr (fun k => show spec_dgOf.f k n b = _ from by unfold spec_dgOf.f; rw [if_neg c]) ?_
    have h := key 41 n [] hn0 (two40 A.n1).2 (by have := A.n1; omega) (by simp)
    rwa [List.append_nil, ← dgs_pos b c] at h
/-! #### loops that gather -/
section
variable {β : Type} (L : Nat → Int → List Int → Int → Int → Option β) (op : Int → Int → Int) (E : Nat → Int → Option β)
  (h0 : ∀ k a xs n i, L (k + 1) a xs n i = if i < n then (if 0 ≤ i then (if i < (xs.length : Int) then (L k (op a (rd xs i)) xs n (wrap64 (i + 1))) else (none)) else (none)) else (E k a))
include h0
theorem foldE_l0 (xs : List Int) (a : Int) (R : β) (hb : (xs.length : Int) ≤ 4611686018427387904) (hE : Ev (fun k => E k (xs.foldl op a)) R) : Ev (fun k => L k a xs (xs.length : Int) 0) R := by
  have key : ∀ (r : List Int) (i : Nat) (a : Int), xs.drop i = r → i ≤ xs.length → Ev (fun k => E k (r.foldl op a)) R → Ev (fun k => L k a xs (xs.length : Int) (i : Int)) R := by
    intro r
    induction r with
    | nil =>
      intro i a he hi hE
      have : xs.length ≤ i := List.drop_eq_nil_iff.1 he
      exact Ev.step (fun k => h0 k _ _ _ _) (Ev.neg (by omega) hE)
    | cons y r ih =>
      intro i a he hi hE
      have hlt : i < xs.length := by
        rcases Nat.lt_or_ge i xs.length with h | h
        · exact h
        · rw [List.drop_eq_nil_of_le h] at he; cases he
      have hw : wrap64 ((i : Int) + 1) = ((i + 1 : Nat) : Int) := by rw [w64 (by omega) (by omega)]; omega
      refine Ev.step (fun k => h0 k _ _ _ _) (Ev.pos (by omega) (Ev.pos (by omega) (Ev.pos (by omega) ?_)))
      rw [hw, drop_rd he]
      exact ih (i + 1) _ (drop_tail he) (by omega) hE
  exact key xs 0 a rfl (by omega) hE
end
theorem fold_l0 (L : Nat → Int → List Int → Int → Int → Option Int) (op : Int → Int → Int)
    (h0 : ∀ k a xs n i, L (k + 1) a xs n i = if i < n then (if 0 ≤ i then (if i < (xs.length : Int) then (L k (op a (rd xs i)) xs n (wrap64 (i + 1))) else (none)) else (none)) else (some a))
    (xs : List Int) (a : Int) (hb : (xs.length : Int) ≤ 4611686018427387904) : Ev (fun k => L k a xs (xs.length : Int) 0) (xs.foldl op a) :=
  foldE_l0 L op (fun _ a => some a) h0 xs a _ hb (Ev.now _)
theorem foldw_sum : ∀ (l : List Int) (a : Int), 0 ≤ a → (∀ x ∈ l, 0 ≤ x) → a + lsum l < 9223372036854775808 → l.foldl (fun a d => wrap64 (a + d)) a = a + lsum l := by
  intro l
  induction l with
  | nil => intro a _ _ _; simp [lsum]
  | cons d t ih =>
    intro a h0 h h1
    have hd := h d List.mem_cons_self
    have ht := lsum_nonneg t (fun x hx => h x (List.mem_cons_of_mem _ hx))
    simp only [lsum] at h1
    simp only [List.foldl_cons, lsum]
    rw [w64 (by omega) (by omega), ih (a + d) (by omega) (fun x hx => h x (List.mem_cons_of_mem _ hx)) (by omega)]
    omega
theorem dgs_lsum_small {n b : Int} (A : Ask n b) : 0 ≤ lsum (dgs b n) ∧ lsum (dgs b n) ≤ 1000000000000 := by
  have h1 := dsum_le A.b2 A.n0 A.n1
  have h2 := dsum_nonneg (n := n) A.b2
  have := A.n1
  unfold dsum at h1 h2
  omega
theorem dgs_len {n b : Int} (A : Ask n b) : 1 ≤ (dgs b n).length ∧ (dgs b n).length ≤ 40 := dgs_length A.b2 A.n0 A.n1
theorem digitSum_ev {n b : Int} (A : Ask n b) : Ev (fun k => impl_digitSum.f k n b) (dsum b n) := by
  have hl := dgs_len A
  have hs := dgs_lsum_small A
  have h := fold_l0 impl_digitSum.l0 (fun a d => wrap64 (a + d)) (fun k a xs n i => by rw [impl_digitSum.l0]) (dgs b n) 0 (by omega)
  rw [foldw_sum _ 0 (by omega) (fun x hx => (dgs_range A.b2 x hx).1) (by omega), Int.zero_add] at h
  exact Ev.bind1 (digitsOf_ev A) h
theorem dgSum_ev (l : List Int) (h : ∀ x ∈ l, 0 ≤ x) (hs : lsum l < 9223372036854775808) (hb : (l.length : Int) ≤ 4611686018427387904) : Ev (fun k => spec_dgSum.f k l) (lsum l) := by
  have h := fold_l0 spec_dgSum.l0 (fun a d => wrap64 (a + d)) (fun k a xs n i => by rw [spec_dgSum.l0]) l 0 hb
  rw [foldw_sum _ 0 (by omega) ‹_› (by omega), Int.zero_add] at h
  exact h
theorem dgSumOf_ev {n b : Int} (A : Ask n b) : Ev (fun k => spec_dgSum.f k (dgs b n)) (dsum b n) :=
  dgSum_ev _ (fun x hx => (dgs_range A.b2 x hx).1) (by have := dgs_lsum_small A; omega) (by have := dgs_len A; omega)
theorem DigitSum_ev (n b : Int) : Ev (fun k => impl_DigitSum.f k n b) (if askB n b = true then (dsum b n, true) else (0, false)) ∧ Ev (fun k => spec_DigitSum.f k n b) (if askB n b = true then (dsum b n, true) else (0, false)) := by
  constructor
  · refine Ev.pure_bind (isNumber_b n b) ?_
    by_cases c : askB n b = true
    · refine Ev.pos c ?_
      rw [if_pos c]
      exact Ev.bind1 (digitSum_ev ((askB_iff n b).1 c)) (Ev.now _)
    · refine Ev.neg c ?_
      rw [if_neg c]
      exact Ev.now _
  · refine Ev.pure_bind (dgAsked_b n b) ?_
    by_cases c : askB n b = true
    · refine Ev.pos c ?_
      rw [if_pos c]
      exact Ev.bind1 (dgOf_ev ((askB_iff n b).1 c)) (Ev.bind1 (dgSumOf_ev ((askB_iff n b).1 c)) (Ev.now _))
    · refine Ev.neg c ?_
      rw [if_neg c]
      exact Ev.now _
theorem DigitsOf_ev (n b : Int) : Ev (fun k => impl_DigitsOf.f k n b) (if askB n b = true then (dgs b n, true) else ([], false)) ∧ Ev (fun k => spec_DigitsOf.f k n b) (if askB n b = true then (dgs b n, true) else ([], false)) := by
  constructor
  · refine Ev.pure_bind (isNumber_b n b) ?_
    by_cases c : askB n b = true
    · refine Ev.pos c ?_
      rw [if_pos c]
      exact Ev.bind1 (digitsOf_ev ((askB_iff n b).1 c)) (Ev.now _)
    · refine Ev.neg c ?_
      rw [if_neg c]
      exact Ev.now _
  · refine Ev.pure_bind (dgAsked_b n b) ?_
    by_cases c : askB n b = true
    · refine Ev.pos c ?_
      rw [if_pos c]
      exact Ev.bind1 (dgOf_ev ((askB_iff n b).1 c)) (Ev.now _)
    · refine Ev.neg c ?_
      rw [if_neg c]
      exact Ev.now _
/-- The number to which sums of digits lead. -/
theorem Ask.sum {n b : Int} (A : Ask n b) : Ask (dsum b n) b := ⟨dsum_nonneg A.b2, by have := dsum_le A.b2 A.n0 A.n1; have := A.n1; omega, A.b2, A.b16⟩

/-! ### digital roots -/
structure Root (n b r : Int) : Prop where
  r0 : 0 ≤ r
  r1 : r < b
  div : ∃ q, n - r = (b - 1) * q
  pos : 0 < n → 0 < r
theorem root_ev {n b : Int} (A : Ask n b) : ∃ r, Ev (fun k => impl_DigitalRoot.l0 k n b) (r, true) ∧ Ev (fun k => spec_DigitalRoot.l0 k n b) (r, true) ∧ Root n b r := by
  have key : ∀ (m : Nat) (n : Int), n.toNat ≤ m → Ask n b → ∃ r, Ev (fun k => impl_DigitalRoot.l0 k n b) (r, true) ∧ Ev (fun k => spec_DigitalRoot.l0 k n b) (r, true) ∧ Root n b r := by
    intro m
    induction m with
    | zero =>
      intro n hm A
      have := A.n0
      have := A.b2
      exact ⟨n, Ev.step (fun k => by rw [impl_DigitalRoot.l0]) (Ev.neg (by omega) (Ev.now _)), Ev.step (fun k => by rw [spec_DigitalRoot.l0]) (Ev.neg (by omega) (Ev.now _)), by omega, by omega, ⟨0, by omega⟩, by omega⟩
    | succ m ih =>
      intro n hm A
      have h0 := A.n0
      have h2 := A.b2
      by_cases c : n ≥ b
      · have hlt := dsum_lt A.b2 c A.n1
        have hp := dsum_pos A.b2 (show 0 < n by omega) A.n1
        obtain ⟨r, e1, e2, R⟩ := ih (dsum b n) (by omega) A.sum
        refine ⟨r, Ev.step (fun k => by rw [impl_DigitalRoot.l0]) (Ev.pos c (Ev.bind1 (digitSum_ev A) e1)), Ev.step (fun k => by rw [spec_DigitalRoot.l0]) (Ev.pos c (Ev.bind1 (dgOf_ev A) (Ev.bind1 (dgSumOf_ev A) e2))), R.r0, R.r1, ?_, fun _ => R.pos hp⟩
        obtain ⟨q, e, _⟩ := dsum_div A.b2 A.n0 A.n1
        obtain ⟨q', e'⟩ := R.div
        exact ⟨q + q', by rw [Int.mul_add]; omega⟩
      · exact ⟨n, Ev.step (fun k => by rw [impl_DigitalRoot.l0]) (Ev.neg c (Ev.now _)), Ev.step (fun k => by rw [spec_DigitalRoot.l0]) (Ev.neg c (Ev.now _)), by omega, by omega, ⟨0, by omega⟩, by omega⟩
  exact key n.toNat n (by omega) A

/-! ### products, counts -/
def lprodw (l : List Int) : Int := l.foldl (fun a d => wrap64 (a * d)) 1
theorem digitProduct_ev {n b : Int} (A : Ask n b) : Ev (fun k => impl_digitProduct.f k n b) (lprodw (dgs b n)) :=
  Ev.bind1 (digitsOf_ev A) (fold_l0 impl_digitProduct.l0 (fun a d => wrap64 (a * d)) (fun k a xs n i => by rw [impl_digitProduct.l0]) (dgs b n) 1 (by have := dgs_len A; omega))
theorem DigitProduct_ev (n b : Int) : Ev (fun k => impl_DigitProduct.f k n b) (if askB n b = true then (lprodw (dgs b n), true) else (0, false)) ∧ Ev (fun k => spec_DigitProduct.f k n b) (if askB n b = true then (lprodw (dgs b n), true) else (0, false)) := by
  constructor
  · refine Ev.pure_bind (isNumber_b n b) ?_
    by_cases c : askB n b = true
    · refine Ev.pos c ?_
      rw [if_pos c]
      exact Ev.bind1 (digitProduct_ev ((askB_iff n b).1 c)) (Ev.now _)
    · refine Ev.neg c ?_
      rw [if_neg c]
      exact Ev.now _
  · refine Ev.pure_bind (dgAsked_b n b) ?_
    by_cases c : askB n b = true
    · refine Ev.pos c ?_
      rw [if_pos c]
      have A := (askB_iff n b).1 c
      have hl := dgs_len A
      exact Ev.bind1 (dgOf_ev A) (Ev.bind1 (fold_l0 spec_dgProduct.l0 (fun a d => wrap64 (a * d)) (fun k a xs n i => by rw [spec_dgProduct.l0]) (dgs b n) 1 (by omega)) (Ev.now _))
    · refine Ev.neg c ?_
      rw [if_neg c]
      exact Ev.now _
/-- Counts, with digits counted in. -/
def incs : List Int → List Int → List Int
  | c, [] => c
  | c, d :: t => incs (c.set d.toNat (wrap64 (rd c d + 1))) t
theorem incs_length : ∀ (l c : List Int), (incs c l).length = c.length := by
  intro l
  induction l with
  | nil => intro c; rfl
  | cons d t ih => intro c; rw [incs, ih]; simp
section
variable (L : Nat → List Int → List Int → Int → Int → Option (List Int))
  (h0 : ∀ k c xs n i, L (k + 1) c xs n i = if i < n then (if 0 ≤ i then (if i < (xs.length : Int) then (if 0 ≤ (rd xs i) then (if (rd xs i) < (c.length : Int) then (L k (c.set ((rd xs i) : Int).toNat (wrap64 ((rd c (rd xs i)) + 1))) xs n (wrap64 (i + 1))) else (none)) else (none)) else (none)) else (none)) else (some c))
include h0
theorem counts_l0 (xs c : List Int) (hb : (xs.length : Int) ≤ 4611686018427387904) (hr : ∀ x ∈ xs, 0 ≤ x ∧ x < (c.length : Int)) : Ev (fun k => L k c xs (xs.length : Int) 0) (incs c xs) := by
  have key : ∀ (r : List Int) (i : Nat) (c : List Int), xs.drop i = r → i ≤ xs.length → (∀ x ∈ r, 0 ≤ x ∧ x < (c.length : Int)) → Ev (fun k => L k c xs (xs.length : Int) (i : Int)) (incs c r) := by
    intro r
    induction r with
    | nil =>
      intro i c he hi _
      have : xs.length ≤ i := List.drop_eq_nil_iff.1 he
      exact Ev.step (fun k => h0 k _ _ _ _) (Ev.neg (by omega) (Ev.now _))
    | cons y r ih =>
      intro i c he hi hr
      have hlt : i < xs.length := by
        rcases Nat.lt_or_ge i xs.length with h | h
        · exact h
        · rw [List.drop_eq_nil_of_le h] at he; cases he
      have hw : wrap64 ((i : Int) + 1) = ((i + 1 : Nat) : Int) := by rw [w64 (by omega) (by omega)]; omega
      have hy := hr y List.mem_cons_self
      refine Ev.step (fun k => h0 k _ _ _ _) (Ev.pos (by omega) (Ev.pos (by omega) (Ev.pos (by omega) ?_)))
      rw [hw, drop_rd he]
      refine Ev.pos hy.1 (Ev.pos hy.2 ?_)
      exact ih (i + 1) _ (drop_tail he) (by omega) (fun x hx => by rw [List.length_set]; exact hr x (List.mem_cons_of_mem _ hx))
  exact key xs 0 c rfl (by omega) hr
end
def cnts (b n : Int) : List Int := incs (List.replicate b.toNat 0) (dgs b n)
theorem countsOf_ev {n b : Int} (A : Ask n b) : Ev (fun k => impl_countsOf.f k (dgs b n) b) (cnts b n) ∧ Ev (fun k => spec_dgCounts.f k (dgs b n) b) (cnts b n) := by
  have hb := A.b2
  have hb' := A.b16
  have hl := dgs_len A
  have hr : ∀ x ∈ dgs b n, 0 ≤ x ∧ x < ((List.replicate b.toNat (0 : Int)).length : Int) := fun x hx => by
    have := dgs_range hb x hx
    rw [List.length_replicate]; omega
  constructor
  · exact Ev.pos (by omega) (Ev.pos (by omega) (counts_l0 impl_countsOf.l0 (fun k a xs n i => by rw [impl_countsOf.l0]) _ _ (by omega) hr))
  · exact Ev.pos (by omega) (Ev.pos (by omega) (counts_l0 spec_dgCounts.l0 (fun k a xs n i => by rw [spec_dgCounts.l0]) _ _ (by omega) hr))
theorem DigitCounts_ev (n b : Int) : Ev (fun k => impl_DigitCounts.f k n b) (if askB n b = true then (cnts b n, true) else ([], false)) ∧ Ev (fun k => spec_DigitCounts.f k n b) (if askB n b = true then (cnts b n, true) else ([], false)) := by
  constructor
  · refine Ev.pure_bind (isNumber_b n b) ?_
    by_cases c : askB n b = true
    · refine Ev.pos c ?_
      rw [if_pos c]
      have A := (askB_iff n b).1 c
      exact Ev.bind1 (digitsOf_ev A) (Ev.bind1 (countsOf_ev A).1 (Ev.now _))
    · refine Ev.neg c ?_
      rw [if_neg c]
      exact Ev.now _
  · refine Ev.pure_bind (dgAsked_b n b) ?_
    by_cases c : askB n b = true
    · refine Ev.pos c ?_
      rw [if_pos c]
      have A := (askB_iff n b).1 c
      exact Ev.bind1 (dgOf_ev A) (Ev.bind1 (countsOf_ev A).2 (Ev.now _))
    · refine Ev.neg c ?_
      rw [if_neg c]
      exact Ev.now _
theorem lsum_set : ∀ (c : List Int) (i : Nat) (v : Int), i < c.length → lsum (c.set i v) = lsum c - rd c (i : Int) + v := by
  intro c
  induction c with
  | nil => intro i v h; cases h
  | cons d t ih =>
    intro i v h
    cases i with
    | zero => simp [lsum, rd]; omega
    | succ i =>
      have := ih i v (by simpa using h)
      rw [rd_el (by simpa using h)] at this
      rw [rd_el h]
      simp only [List.set_cons_succ, lsum, this, List.getElem_cons_succ]
      omega
theorem lsum_mem : ∀ (c : List Int), (∀ x ∈ c, 0 ≤ x) → ∀ x ∈ c, x ≤ lsum c := by
  intro c
  induction c with
  | nil => intro _ x hx; cases hx
  | cons d t ih =>
    intro h x hx
    have h1 := lsum_nonneg t (fun x hx => h x (List.mem_cons_of_mem _ hx))
    have h2 := h d List.mem_cons_self
    simp only [lsum]
    rcases List.mem_cons.1 hx with rfl | hx
    · omega
    · have := ih (fun x hx => h x (List.mem_cons_of_mem _ hx)) x hx
      omega
theorem incs_sum : ∀ (l c : List Int), (∀ x ∈ l, 0 ≤ x ∧ x < (c.length : Int)) → (∀ x ∈ c, 0 ≤ x) → lsum c + l.length ≤ 1000000000000 → lsum (incs c l) = lsum c + l.length ∧ ∀ x ∈ incs c l, 0 ≤ x := by
  intro l
  induction l with
  | nil => intro c _ hc _; exact ⟨by simp [incs], hc⟩
  | cons d t ih =>
    intro c hl hc hs
    have hd := hl d List.mem_cons_self
    have e : rd c d = rd c ((d.toNat : Nat) : Int) := by rw [show ((d.toNat : Nat) : Int) = d by omega]
    have hlt : d.toNat < c.length := by omega
    have hm : rd c d ∈ c := by rw [e]; exact rd_mem hlt
    have h1 := lsum_mem c hc _ hm
    have h2 := hc _ hm
    rw [List.length_cons] at hs
    have hw : wrap64 (rd c d + 1) = rd c d + 1 := w64 (by omega) (by omega)
    have hset := lsum_set c d.toNat (rd c d + 1) hlt
    rw [← e] at hset
    have := ih (c.set d.toNat (rd c d + 1)) (fun x hx => by rw [List.length_set]; exact hl x (List.mem_cons_of_mem _ hx)) (fun x hx => by
      rcases List.mem_or_eq_of_mem_set hx with h | h
      · exact hc x h
      · omega) (by omega)
    rw [incs, hw]
    refine ⟨?_, this.2⟩
    rw [this.1, List.length_cons]
    omega
theorem lsum_zeros : ∀ n, lsum (List.replicate n 0) = 0 := by
  intro n
  induction n with
  | zero => rfl
  | succ n ih => rw [List.replicate_succ]; simp only [lsum]; omega
theorem cnts_sum {n b : Int} (A : Ask n b) : lsum (cnts b n) = (dgs b n).length ∧ ∀ x ∈ cnts b n, 0 ≤ x := by
  have hb := A.b2
  have hl := dgs_len A
  have h := incs_sum (dgs b n) (List.replicate b.toNat 0) (fun x hx => by
    have := dgs_range hb x hx
    rw [List.length_replicate]; omega) (fun x hx => by rw [(List.mem_replicate.1 hx).2]; omega) (by rw [lsum_zeros]; omega)
  rw [lsum_zeros, Int.zero_add] at h
  exact h

/-! ### numbers of digits -/
def canB (D : List Int) (b : Int) : Bool := decide (1 ≤ (D.length : Int) ∧ (D.length : Int) ≤ 40) && ((D.all fun x => decide (0 ≤ x ∧ x ≤ b - 1)) && (decide (rd D 0 > 0) || ((D.length : Int) == 1)))
theorem canB_iff (D : List Int) (b : Int) : canB D b = true ↔ (D.length ≤ 40 ∧ Canon b D) := by
  unfold canB Canon
  rw [Bool.and_eq_true, Bool.and_eq_true, Bool.or_eq_true, decide_eq_true_iff, decide_eq_true_iff, List.all_eq_true, beq_iff_eq]
  have hh : D ≠ [] → ((∀ x, D.head? = some x → 0 < x) ↔ rd D 0 > 0) := by
    intro hne
    cases D with
    | nil => exact absurd rfl hne
    | cons d t => simp [rd]
  constructor
  · rintro ⟨⟨h1, h2⟩, h3, h4⟩
    have hne : D ≠ [] := fun e => by rw [e] at h1; simp at h1
    refine ⟨by omega, hne, fun x hx => by have := h3 x hx; rw [decide_eq_true_iff] at this; omega, ?_⟩
    rcases h4 with h4 | h4
    · exact .inr ((hh hne).2 h4)
    · exact .inl (by omega)
  · rintro ⟨h1, hne, h3, h4⟩
    have hp := List.length_pos_iff.2 hne
    refine ⟨⟨by omega, by omega⟩, fun x hx => by have := h3 x hx; rw [decide_eq_true_iff]; omega, ?_⟩
    rcases h4 with h4 | h4
    · exact .inr (by omega)
    · exact .inl ((hh hne).1 h4)
theorem areDigits_b {b : Int} (hb : 2 ≤ b ∧ b ≤ 16) (D : List Int) : impl_areDigits.f D b = some (canB D b) := by
  unfold impl_areDigits.f impl_areIn.f canB
  rw [areIn_ok, Option.bind_some, w64 (by omega) (by omega)]
  by_cases c : 1 ≤ (D.length : Int) ∧ (D.length : Int) ≤ 40
  · rw [decide_eq_true c, Bool.true_and, Bool.true_and, if_pos (show 0 < (D.length : Int) by omega)]
    cases D.all fun x => decide (0 ≤ x ∧ x ≤ b - 1)
    · rfl
    · rw [if_pos rfl, Bool.true_and]
      by_cases c2 : rd D 0 > 0
      · rw [if_pos c2, decide_eq_true c2]; rfl
      · rw [if_neg c2, decide_eq_false c2]; rfl
  · rw [decide_eq_false c]; rfl
theorem dgAre_b {b : Int} (hb : 2 ≤ b ∧ b ≤ 16) (D : List Int) : Ev (fun k => spec_dgAre.f k D b) (canB D b) := by
  have hw : wrap64 (b - 1) = b - 1 := w64 (by omega) (by omega)
  refine Ev.congr (fun k => by unfold spec_dgAre.f; rw [l1In_f, Option.bind_some, hw]) ?_
  unfold canB
  by_cases c : 1 ≤ (D.length : Int) ∧ (D.length : Int) ≤ 40
  · refine Ev.pos (decide_eq_true c) ?_
    rw [decide_eq_true c, Bool.true_and]
    refine Ev.bind1 (l1All_ev 0 (b - 1) D (by omega)) ?_
    cases D.all fun x => decide (0 ≤ x ∧ x ≤ b - 1)
    · exact Ev.neg (by simp) (Ev.now _)
    · refine Ev.pos rfl (Ev.pos (by omega) ?_)
      rw [Bool.true_and]
      by_cases c2 : rd D 0 > 0
      · refine Ev.pos c2 (Ev.some ?_)
        rw [decide_eq_true c2]; rfl
      · refine Ev.neg c2 (Ev.some ?_)
        rw [decide_eq_false c2]; rfl
  · refine Ev.neg (by simp only [decide_eq_false c]; simp) (Ev.some ?_)
    rw [decide_eq_false c]; rfl
theorem hval_step {b a d : Int} (hb : 2 ≤ b ∧ b ≤ 16) (ha : 0 ≤ a ∧ a ≤ 1000000000000) (hd : 0 ≤ d ∧ d < b) : wrap64 (wrap64 (a * b) + d) = a * b + d ∧ 0 ≤ a * b + d := by
  have h1 : a * b ≤ a * 16 := Int.mul_le_mul_of_nonneg_left hb.2 ha.1
  have h2 : 0 ≤ a * b := Int.mul_nonneg ha.1 (by omega)
  rw [w64 (n := a * b) (by omega) (by omega), w64 (by omega) (by omega)]
  omega
theorem value_ev {b : Int} (hb : 2 ≤ b ∧ b ≤ 16) (D : List Int) (hl : (D.length : Int) ≤ 1048576) (hr : ∀ x ∈ D, 0 ≤ x ∧ x < b) :
    Ev (fun k => impl_value.f k D b) (if hval b 0 D ≤ 1000000000000 then hval b 0 D else 1000000000001) ∧ Ev (fun k => spec_dgFrom.f k D b) (if hval b 0 D ≤ 1000000000000 then (hval b 0 D, true) else (0, false)) := by
  have key : ∀ (r : List Int) (i : Nat) (a : Int), D.drop i = r → i ≤ D.length → (∀ x ∈ r, 0 ≤ x ∧ x < b) → 0 ≤ a ∧ a ≤ 1000000000000 →
      Ev (fun k => impl_value.l0 k b a D (D.length : Int) (i : Int)) (if hval b a r ≤ 1000000000000 then hval b a r else 1000000000001) ∧ Ev (fun k => spec_dgFrom.l0 k b a D (D.length : Int) (i : Int)) (if hval b a r ≤ 1000000000000 then (hval b a r, true) else (0, false)) := by
    intro r
    induction r with
    | nil =>
      intro i a he hi _ ha
      have : D.length ≤ i := List.drop_eq_nil_iff.1 he
      rw [hval_nil, if_pos ha.2, if_pos ha.2]
      exact ⟨Ev.step (fun k => by rw [impl_value.l0]) (Ev.neg (by omega) (Ev.now _)), Ev.step (fun k => by rw [spec_dgFrom.l0]) (Ev.neg (by omega) (Ev.now _))⟩
    | cons y r ih =>
      intro i a he hi hr ha
      have hlt : i < D.length := by
        rcases Nat.lt_or_ge i D.length with h | h
        · exact h
        · rw [List.drop_eq_nil_of_le h] at he; cases he
      have hw : wrap64 ((i : Int) + 1) = ((i + 1 : Nat) : Int) := by rw [w64 (by omega) (by omega)]; omega
      have hy := hr y List.mem_cons_self
      obtain ⟨e1, e2⟩ := hval_step hb ha hy
      rw [hval_cons]
      by_cases c : a * b + y > 1000000000000
      · have := hval_ge hb.1 r (a * b + y) (by omega) (fun x hx => (hr x (List.mem_cons_of_mem _ hx)).1)
        rw [if_neg (show ¬ hval b (a * b + y) r ≤ 1000000000000 by omega), if_neg (show ¬ hval b (a * b + y) r ≤ 1000000000000 by omega)]
        constructor
        · refine Ev.step (fun k => by rw [impl_value.l0]) (Ev.pos (by omega) (Ev.pos (by omega) (Ev.pos (by omega) ?_)))
          rw [drop_rd he, e1]
          exact Ev.pos c (Ev.now _)
        · refine Ev.step (fun k => by rw [spec_dgFrom.l0]) (Ev.pos (by omega) (Ev.pos (by omega) (Ev.pos (by omega) ?_)))
          rw [drop_rd he, e1]
          exact Ev.pos c (Ev.now _)
      · obtain ⟨i1, i2⟩ := ih (i + 1) (a * b + y) (drop_tail he) (by omega) (fun x hx => hr x (List.mem_cons_of_mem _ hx)) (by omega)
        constructor
        · refine Ev.step (fun k => by rw [impl_value.l0]) (Ev.pos (by omega) (Ev.pos (by omega) (Ev.pos (by omega) ?_)))
          rw [drop_rd he, e1, hw]
          exact Ev.neg c i1
        · refine Ev.step (fun k => by rw [spec_dgFrom.l0]) (Ev.pos (by omega) (Ev.pos (by omega) (Ev.pos (by omega) ?_)))
          rw [drop_rd he, e1, hw]
          exact Ev.neg c i2
  exact key D 0 0 rfl (by omega) hr (by omega)
/-- What NumberOf tells. -/
def numOf (D : List Int) (b : Int) : Int × Bool := if (baseB b && canB D b) = true then (if hval b 0 D ≤ 1000000000000 then (hval b 0 D, true) else (0, false)) else (0, false)
theorem baseB_iff (b : Int) : baseB b = true ↔ 2 ≤ b ∧ b ≤ 16 := decide_eq_true_iff
theorem told_f (n : Int) : impl_told.f n = some (if n > 1000000000000 then (0, false) else (n, true)) := by unfold impl_told.f; split <;> rfl
theorem NumberOf_ev (D : List Int) (b : Int) : Ev (fun k => impl_NumberOf.f k D b) (numOf D b) ∧ Ev (fun k => spec_NumberOf.f k D b) (numOf D b) := by
  unfold numOf
  constructor
  · refine Ev.pure_bind (isBase_b b) ?_
    by_cases c : baseB b = true
    · refine Ev.pos c (Ev.pure_bind (areDigits_b ((baseB_iff b).1 c) D) ?_)
      rw [c, Bool.true_and]
      by_cases c2 : canB D b = true
      · rw [if_pos c2, c2]
        obtain ⟨hl, hc⟩ := (canB_iff D b).1 c2
        refine Ev.step (fun k => by rw [impl_NumberOf.j0]) (Ev.neg (by simp) (Ev.bind1 (value_ev ((baseB_iff b).1 c) D (by omega) hc.2.1).1 ?_))
        refine Ev.congr (fun k => by rw [told_f, Option.bind_some]) (Ev.some ?_)
        by_cases c3 : hval b 0 D ≤ 1000000000000
        · rw [if_pos c3, if_pos c3, if_neg (by omega)]
        · rw [if_neg c3, if_neg c3, if_pos (by omega)]
      · rw [if_neg c2, Bool.eq_false_iff.2 c2]
        exact Ev.step (fun k => by rw [impl_NumberOf.j0, if_pos (show (!false) = true from rfl)]) (Ev.now _)
    · rw [Bool.eq_false_iff.2 c, if_neg (by simp)]
      refine Ev.neg (by simp) (Ev.step (fun k => by rw [impl_NumberOf.j0]) (Ev.pos rfl (Ev.now _)))
  · refine Ev.pure_bind (dgBase_b b) ?_
    by_cases c : baseB b = true
    · refine Ev.pos c (Ev.bind1 (dgAre_b ((baseB_iff b).1 c) D) ?_)
      rw [c, Bool.true_and]
      by_cases c2 : canB D b = true
      · obtain ⟨hl, hc⟩ := (canB_iff D b).1 c2
        rw [if_pos c2]
        exact Ev.pos c2 (Ev.bind1 (value_ev ((baseB_iff b).1 c) D (by omega) hc.2.1).2 (Ev.now _))
      · rw [if_neg c2]
        exact Ev.neg c2 (Ev.now _)
    · rw [Bool.eq_false_iff.2 c, if_neg (by simp)]
      exact Ev.neg (by simp) (Ev.now _)
/-- What AreDigits tells. -/
def areOf (D : List Int) (b : Int) : Bool × Bool := if (baseB b && decide ((D.length : Int) ≤ 40)) = true then (canB D b, true) else (false, false)
theorem AreDigits_ev (D : List Int) (b : Int) : impl_AreDigits.f D b = some (areOf D b) ∧ Ev (fun k => spec_AreDigits.f k D b) (areOf D b) := by
  unfold areOf
  constructor
  · unfold impl_AreDigits.f
    rw [isBase_b, Option.bind_some]
    by_cases c : baseB b = true
    · rw [if_pos c, c, Bool.true_and]
      by_cases c2 : (D.length : Int) ≤ 40
      · rw [if_neg (by omega), areDigits_b ((baseB_iff b).1 c), if_pos (decide_eq_true c2)]; rfl
      · rw [if_pos (by omega), if_neg (by simpa using c2)]
    · rw [if_neg c, Bool.eq_false_iff.2 c, if_neg (by simp)]
  · refine Ev.pure_bind (dgBase_b b) ?_
    by_cases c : baseB b = true
    · refine Ev.pos c ?_
      rw [c, Bool.true_and]
      by_cases c2 : (D.length : Int) ≤ 40
      · rw [if_pos (decide_eq_true c2)]
        exact Ev.neg (by omega) (Ev.bind1 (dgAre_b ((baseB_iff b).1 c) D) (Ev.now _))
      · rw [if_neg (by simpa using c2)]
        exact Ev.pos (by omega) (Ev.now _)
    · rw [Bool.eq_false_iff.2 c, if_neg (by simp)]
      exact Ev.neg (by simp) (Ev.now _)
theorem numOf_dgs {n b : Int} (A : Ask n b) : numOf (dgs b n) b = (n, true) ∧ areOf (dgs b n) b = (true, true) := by
  have hb := A.b2
  have hl := dgs_len A
  have hB : baseB b = true := (baseB_iff b).2 ⟨A.b2, A.b16⟩
  have hC : canB (dgs b n) b = true := (canB_iff _ _).2 ⟨hl.2, dgs_canon hb A.n0 A.n1⟩
  have hv := hval_dgs hb A.n0 A.n1
  have h1 := A.n1
  unfold numOf areOf
  rw [hB, hC, hv, if_pos (by simp), if_pos h1, if_pos (by simp; omega)]
  exact ⟨rfl, rfl⟩
theorem numOf_true {D : List Int} {b : Int} (h : (numOf D b).2 = true) : Ask (numOf D b).1 b ∧ dgs b (numOf D b).1 = D ∧ canB D b = true := by
  unfold numOf at h ⊢
  by_cases c : (baseB b && canB D b) = true
  · rw [if_pos c] at h ⊢
    rw [Bool.and_eq_true] at c
    have hb := (baseB_iff b).1 c.1
    have hc := ((canB_iff D b).1 c.2).2
    by_cases c2 : hval b 0 D ≤ 1000000000000
    · rw [if_pos c2] at h ⊢
      exact ⟨⟨hval_ge hb.1 D 0 (by omega) (fun x hx => (hc.2.1 x hx).1), c2, hb.1, hb.2⟩, dgs_hval hb.1 hc c2, c.2⟩
    · rw [if_neg c2] at h; cases h
  · rw [if_neg c] at h; cases h

/-! ### texts of numbers -/
def LET : List Int := [48, 49, 50, 51, 52, 53, 54, 55, 56, 57, 97, 98, 99, 100, 101, 102]
def letB (d : Int) : Int := bt (⟨#[48, 49, 50, 51, 52, 53, 54, 55, 56, 57, 97, 98, 99, 100, 101, 102]⟩ : ByteArray) d
theorem below16 {P : Int → Prop} (h : ∀ i : Fin 16, P (i.val : Int)) {d : Int} (h0 : 0 ≤ d) (h1 : d < 16) : P d := by
  have := h ⟨d.toNat, by omega⟩
  rwa [show (((⟨d.toNat, by omega⟩ : Fin 16).val : Nat) : Int) = d by simp; omega] at this
theorem letB_ix {d : Int} (h0 : 0 ≤ d) (h1 : d < 16) : ix LET (letB d) = d := below16 (P := fun d => ix LET (letB d) = d) (by decide) h0 h1
theorem letB_rd {d : Int} (h0 : 0 ≤ d) (h1 : d < 16) : rd LET d = letB d := below16 (P := fun d => rd LET d = letB d) (by decide) h0 h1
theorem letB_range {d : Int} (h0 : 0 ≤ d) (h1 : d < 16) : 0 ≤ letB d ∧ letB d ≤ 255 := bt_range _ _
theorem ix_let {v : Int} (h : 0 ≤ ix LET v) : ix LET v < 16 ∧ letB (ix LET v) = v := by
  have hm : v ∈ LET := by
    rcases ix_range (l := LET) (s := v) with h' | h'
    · omega
    · exact h'.2.2
  obtain ⟨i, e, hl, hv, _⟩ := ix_mem hm
  have hl' : i < 16 := hl
  rw [e]
  refine ⟨by omega, ?_⟩
  rw [← letB_rd (by omega) (by omega), rd_el hl, hv]
theorem str_size (l : List Int) : (strOfNums l).size = l.length := by
  show (strOfNums l).data.size = _
  simp [strOfNums]
theorem str_app (a b : List Int) : strOfNums (a ++ b) = strOfNums a ++ strOfNums b := by
  apply ByteArray.ext
  rw [ByteArray.data_append]
  simp [strOfNums]
theorem let_extract {d : Int} (h0 : 0 ≤ d) (h1 : d < 16) : (⟨#[48, 49, 50, 51, 52, 53, 54, 55, 56, 57, 97, 98, 99, 100, 101, 102]⟩ : ByteArray).extract d.toNat (d + 1).toNat = strOfNums [letB d] :=
  below16 (P := fun d => (⟨#[48, 49, 50, 51, 52, 53, 54, 55, 56, 57, 97, 98, 99, 100, 101, 102]⟩ : ByteArray).extract d.toNat (d + 1).toNat = strOfNums [letB d]) (by decide) h0 h1
def textD (D : List Int) : ByteArray := strOfNums (D.map letB)
theorem textOf_ev {n b : Int} (A : Ask n b) : Ev (fun k => impl_textOf.f k n b) (textD (dgs b n)) ∧ Ev (fun k => spec_dgText.f k n b) (textD (dgs b n)) := by
  have hl := dgs_len A
  have hr : ∀ x ∈ dgs b n, 0 ≤ x ∧ x < 16 := fun x hx => by have := dgs_range A.b2 x hx; have := A.b16; omega
  have hde := digitsOf_ev A
  have hds := dgOf_ev A
  generalize dgs b n = D at *
  have key : ∀ (r : List Int) (i : Nat) (acc : List Int), D.drop i = r → i ≤ D.length → acc.length + r.length ≤ 100 → (∀ x ∈ r, 0 ≤ x ∧ x < 16) →
      Ev (fun k => impl_textOf.l0 k acc D (D.length : Int) (i : Int)) (strOfNums (acc ++ r.map letB)) ∧ Ev (fun k => spec_dgText.l0 k (strOfNums acc) D (D.length : Int) (i : Int)) (strOfNums (acc ++ r.map letB)) := by
    intro r
    induction r with
    | nil =>
      intro i acc he hi _ _
      have : D.length ≤ i := List.drop_eq_nil_iff.1 he
      rw [List.map_nil, List.append_nil]
      exact ⟨Ev.step (fun k => by rw [impl_textOf.l0]) (Ev.neg (by omega) (Ev.now _)), Ev.step (fun k => by rw [spec_dgText.l0]) (Ev.neg (by omega) (Ev.now _))⟩
    | cons y r ih =>
      intro i acc he hi ha hr
      have hlt : i < D.length := by
        rcases Nat.lt_or_ge i D.length with h | h
        · exact h
        · rw [List.drop_eq_nil_of_le h] at he; cases he
      have hw : wrap64 ((i : Int) + 1) = ((i + 1 : Nat) : Int) := by rw [w64 (by omega) (by omega)]; omega
      have hy := hr y List.mem_cons_self
      have hwy : wrap64 (y + 1) = y + 1 := w64 (by omega) (by omega)
      rw [List.length_cons] at ha
      obtain ⟨i1, i2⟩ := ih (i + 1) (acc ++ [letB y]) (drop_tail he) (by omega) (by simp; omega) (fun x hx => hr x (List.mem_cons_of_mem _ hx))
      rw [List.map_cons, show acc ++ letB y :: r.map letB = (acc ++ [letB y]) ++ r.map letB by simp]
      have hsz := str_size acc
      have hex := let_extract hy.1 hy.2
      constructor
      · refine Ev.step (fun k => by rw [impl_textOf.l0]) (Ev.pos (by omega) (Ev.pos (by omega) (Ev.pos (by omega) ?_)))
        rw [drop_rd he, hw]
        exact Ev.pos hy.1 (Ev.pos hy.2 (Ev.pos (by omega) i1))
      · refine Ev.step (fun k => by rw [spec_dgText.l0]) (Ev.pos (by omega) (Ev.pos (by omega) (Ev.pos (by omega) ?_)))
        rw [drop_rd he, hw, hwy, hex, ← str_app]
        have : (strOfNums [letB y]).size = 1 := str_size _
        exact Ev.pos hy.1 (Ev.pos (by omega) (Ev.pos (by omega) (Ev.pos (by omega) i2)))
  obtain ⟨k1, k2⟩ := key D 0 [] rfl (by omega) (by simp; omega) hr
  exact ⟨Ev.bind1 hde k1, Ev.bind1 hds k2⟩
theorem NumberText_ev (n b : Int) : Ev (fun k => impl_NumberText.f k n b) (if askB n b = true then (textD (dgs b n), true) else (⟨#[]⟩, false)) ∧ Ev (fun k => spec_NumberText.f k n b) (if askB n b = true then (textD (dgs b n), true) else (⟨#[]⟩, false)) := by
  constructor
  · refine Ev.pure_bind (isNumber_b n b) ?_
    by_cases c : askB n b = true
    · refine Ev.pos c ?_
      rw [if_pos c]
      exact Ev.bind1 (textOf_ev ((askB_iff n b).1 c)).1 (Ev.now _)
    · refine Ev.neg c ?_
      rw [if_neg c]
      exact Ev.now _
  · refine Ev.pure_bind (dgAsked_b n b) ?_
    by_cases c : askB n b = true
    · refine Ev.pos c ?_
      rw [if_pos c]
      exact Ev.bind1 (textOf_ev ((askB_iff n b).1 c)).2 (Ev.now _)
    · refine Ev.neg c ?_
      rw [if_neg c]
      exact Ev.now _
/-! ### reading texts -/
theorem indexb_ev (l : List Int) (s : Int) (hl : (l.length : Int) ≤ 4611686018427387904) : Ev (fun k => slices_Index_byte_byte.f k l s) (ix l s) := by
  have key : ∀ (d i : Nat), i + d = l.length → (∀ x ∈ l.take i, x ≠ s) → Ev (fun k => slices_Index_byte_byte.l0 k l s (l.length : Int) (i : Int)) (ix l s) := by
    intro d
    induction d with
    | zero =>
      intro i hi hn
      rw [List.take_of_length_le (by omega)] at hn
      rw [ix_none hn]
      exact Ev.step (fun k => by rw [slices_Index_byte_byte.l0]) (Ev.neg (by omega) (Ev.now _))
    | succ d ih =>
      intro i hi hn
      have hw : wrap64 ((i : Int) + 1) = ((i + 1 : Nat) : Int) := by rw [w64 (by omega) (by omega)]; omega
      refine Ev.step (fun k => by rw [slices_Index_byte_byte.l0]) (Ev.pos (by omega) (Ev.pos (by omega) (Ev.pos (by omega) ?_)))
      rw [rd_el (show i < l.length by omega), hw]
      by_cases c : l[i]'(by omega) = s
      · refine Ev.pos c.symm (Ev.some ?_)
        exact (ix_some (by omega) c hn).symm
      · exact Ev.neg (fun e => c e.symm) (ih (i + 1) (by omega) (take_ne_succ (by omega) c hn))
  exact key l.length 0 (by omega) (by simp)
def PD (s : ByteArray) : List Int := (List.range (min s.size 41)).map fun (i : Nat) => ix LET (bt s (i : Int))
theorem PD_length (s : ByteArray) : (PD s).length = min s.size 41 := by simp [PD]
theorem parse_ev (s : ByteArray) (b : Int) : Ev (fun k => impl_ParseNumber.f k s b) (numOf (PD s) b) := by
  have key : ∀ (d i : Nat), i + d = min s.size 41 → Ev (fun k => impl_ParseNumber.l0 k s b ((List.range i).map fun (i : Nat) => ix LET (bt s (i : Int))) (i : Int)) (numOf (PD s) b) := by
    intro d
    induction d with
    | zero =>
      intro i hi
      have e : ((List.range i).map fun (i : Nat) => ix LET (bt s (i : Int))) = PD s := by rw [PD, show i = min s.size 41 by omega]
      rw [e]
      by_cases c : (i : Int) < (s.size : Int)
      · exact Ev.step (fun k => by rw [impl_ParseNumber.l0]) (Ev.pos c (Ev.neg (by omega) (Ev.bind1 (NumberOf_ev _ _).1 (Ev.now _))))
      · exact Ev.step (fun k => by rw [impl_ParseNumber.l0]) (Ev.neg c (Ev.bind1 (NumberOf_ev _ _).1 (Ev.now _)))
    | succ d ih =>
      intro i hi
      have hw : wrap64 ((i : Int) + 1) = ((i + 1 : Nat) : Int) := by rw [w64 (by omega) (by omega)]; omega
      refine Ev.step (fun k => by rw [impl_ParseNumber.l0]) (Ev.pos (by omega) (Ev.pos (by omega) (Ev.pos (by omega) ?_)))
      refine Ev.bind1 (indexb_ev LET (bt s (i : Int)) (by decide)) ?_
      refine Ev.pos (by simp; omega) ?_
      rw [hw, ← tab_succ (fun (i : Nat) => ix LET (bt s (i : Int)))]
      exact ih (i + 1) (by omega)
  exact key (min s.size 41) 0 (by omega)
def sx (b v : Int) : Int := if 0 ≤ ix LET v ∧ ix LET v < b then ix LET v else b
def SD (s : ByteArray) (b : Int) : List Int := (List.range s.size).map fun (i : Nat) => sx b (bt s (i : Int))
theorem find_ev (s : ByteArray) {b : Int} (hb : 2 ≤ b ∧ b ≤ 16) (acc : List Int) (i : Nat) (hi : i < s.size) (ha : acc.length < 17592186044416) (R : Int × Bool)
    (h : Ev (fun k => spec_ParseNumber.l0 k s b (acc ++ [sx b (bt s (i : Int))]) (wrap64 ((i : Int) + 1))) R) :
    Ev (fun k => spec_ParseNumber.l1 k s b acc (i : Int) 0) R := by
  have key : ∀ (d : Nat) (j : Int), j + d = b → 0 ≤ j → (∀ p, 0 ≤ p → p < j → letB p ≠ bt s (i : Int)) → Ev (fun k => spec_ParseNumber.l1 k s b acc (i : Int) j) R := by
    intro d
    induction d with
    | zero =>
      intro j hj h0 hn
      have e : sx b (bt s (i : Int)) = j := by
        unfold sx
        rw [if_neg ?_]
        · omega
        · rintro ⟨h1, h2⟩
          exact hn _ h1 (by omega) (ix_let h1).2
      rw [e] at h
      exact Ev.step (fun k => by rw [spec_ParseNumber.l1]) (Ev.neg (by omega) (Ev.pos ha h))
    | succ d ih =>
      intro j hj h0 hn
      have hw : wrap64 (j + 1) = j + 1 := w64 (by omega) (by omega)
      refine Ev.step (fun k => by rw [spec_ParseNumber.l1]) (Ev.pos (by omega) (Ev.pos h0 (Ev.pos (by omega) (Ev.pos (by omega) (Ev.pos (by omega) ?_)))))
      by_cases c : letB j = bt s (i : Int)
      · have e : sx b (bt s (i : Int)) = j := by
          unfold sx
          rw [← c, letB_ix h0 (by omega), if_pos (by omega)]
        rw [e] at h
        exact Ev.pos c (Ev.pos ha h)
      · refine Ev.neg c ?_
        rw [hw]
        refine ih (j + 1) (by omega) (by omega) (fun p h1 h2 => ?_)
        by_cases e : p = j
        · rw [e]; exact c
        · exact hn p h1 (by omega)
  exact key b.toNat 0 (by omega) (by omega) (fun p h1 h2 => by omega)
def parseOf (s : ByteArray) (b : Int) : Int × Bool := if (baseB b && decide (1 ≤ (s.size : Int) ∧ (s.size : Int) ≤ 40)) = true then numOf (SD s b) b else (0, false)
theorem sparse_ev (s : ByteArray) (b : Int) : Ev (fun k => spec_ParseNumber.f k s b) (parseOf s b) := by
  unfold parseOf
  refine Ev.pure_bind (dgBase_b b) ?_
  by_cases c : baseB b = true
  · have hb := (baseB_iff b).1 c
    refine Ev.pos c (Ev.pure_bind (l1In_f _ _ _) ?_)
    rw [c, Bool.true_and]
    by_cases c2 : 1 ≤ (s.size : Int) ∧ (s.size : Int) ≤ 40
    · rw [if_pos (decide_eq_true c2), decide_eq_true c2]
      refine Ev.step (fun k => by rw [spec_ParseNumber.j0, if_neg (show ¬ (!true) = true by simp)]) ?_
      have key : ∀ (d i : Nat), i + d = s.size → Ev (fun k => spec_ParseNumber.l0 k s b ((List.range i).map fun (i : Nat) => sx b (bt s (i : Int))) (i : Int)) (numOf (SD s b) b) := by
        intro d
        induction d with
        | zero =>
          intro i hi
          have e : ((List.range i).map fun (i : Nat) => sx b (bt s (i : Int))) = SD s b := by rw [SD, show i = s.size by omega]
          rw [e]
          refine Ev.step (fun k => by rw [spec_ParseNumber.l0]) (Ev.neg (by omega) (Ev.bind1 (dgAre_b hb _) ?_))
          unfold numOf
          rw [c, Bool.true_and]
          by_cases c3 : canB (SD s b) b = true
          · obtain ⟨hl, hc⟩ := (canB_iff _ b).1 c3
            rw [if_pos c3]
            exact Ev.pos c3 (Ev.bind1 (value_ev hb _ (by omega) hc.2.1).2 (Ev.now _))
          · rw [if_neg c3]
            exact Ev.neg c3 (Ev.now _)
        | succ d ih =>
          intro i hi
          have hw : wrap64 ((i : Int) + 1) = ((i + 1 : Nat) : Int) := by rw [w64 (by omega) (by omega)]; omega
          refine Ev.step (fun k => by rw [spec_ParseNumber.l0]) (Ev.pos (by omega) (find_ev s hb _ i (by omega) (by simp; omega) _ ?_))
          rw [hw, ← tab_succ (fun (i : Nat) => sx b (bt s (i : Int)))]
          exact ih (i + 1) (by omega)
      exact key s.size 0 (by omega)
    · rw [if_neg (by simpa using c2), decide_eq_false c2]
      exact Ev.step (fun k => by rw [spec_ParseNumber.j0, if_pos (show (!false) = true from rfl)]) (Ev.now _)
  · rw [Bool.eq_false_iff.2 c, if_neg (by simp)]
    exact Ev.neg (by simp) (Ev.step (fun k => by rw [spec_ParseNumber.j0, if_pos rfl]) (Ev.now _))
theorem canB_false {D : List Int} {b x : Int} (hx : x ∈ D) (h : ¬ (0 ≤ x ∧ x < b)) : canB D b = false := by
  rw [← Bool.not_eq_true]
  intro c
  exact h (((canB_iff D b).1 c).2.2.1 x hx)
theorem parse_eq (s : ByteArray) (b : Int) : parseOf s b = numOf (PD s) b := by
  unfold parseOf
  by_cases c : baseB b = true
  · have hb := (baseB_iff b).1 c
    rw [c, Bool.true_and]
    by_cases c2 : 1 ≤ (s.size : Int) ∧ (s.size : Int) ≤ 40
    · rw [if_pos (decide_eq_true c2)]
      have hm : min s.size 41 = s.size := by omega
      by_cases c3 : ∀ i < s.size, 0 ≤ ix LET (bt s (i : Int)) ∧ ix LET (bt s (i : Int)) < b
      · have : SD s b = PD s := by
          unfold SD PD
          rw [hm]
          refine List.map_congr_left (fun i hi => ?_)
          unfold sx
          rw [if_pos (c3 i (List.mem_range.1 hi))]
        rw [this]
      · have : ∃ i, i < s.size ∧ ¬ (0 ≤ ix LET (bt s (i : Int)) ∧ ix LET (bt s (i : Int)) < b) := by
          apply Classical.byContradiction
          intro hh
          exact c3 (fun i hi => Classical.byContradiction fun hc => hh ⟨i, hi, hc⟩)
        obtain ⟨i, hi, hn⟩ := this
        have h1 : canB (PD s) b = false := canB_false (x := ix LET (bt s (i : Int))) (List.mem_map.2 ⟨i, List.mem_range.2 (by omega), rfl⟩) hn
        have h2 : canB (SD s b) b = false := canB_false (x := b) (List.mem_map.2 ⟨i, List.mem_range.2 hi, by unfold sx; rw [if_neg hn]⟩) (by omega)
        unfold numOf
        rw [h1, h2, Bool.and_false, if_neg (by simp), if_neg (by simp)]
    · rw [if_neg (by simpa using c2)]
      have : canB (PD s) b = false := by
        rw [← Bool.not_eq_true]
        intro h
        obtain ⟨hl, hne, _⟩ := (canB_iff _ _).1 h
        rw [PD_length] at hl
        have := List.length_pos_iff.2 hne
        rw [PD_length] at this
        omega
      unfold numOf
      rw [this, Bool.and_false, if_neg (by simp)]
  · unfold numOf
    rw [Bool.eq_false_iff.2 c, if_neg (by simp), Bool.false_and, if_neg (by simp)]
theorem bt_str {l : List Int} {i : Nat} (h : i < l.length) (h0 : 0 ≤ l[i] ∧ l[i] ≤ 255) : bt (strOfNums l) (i : Int) = l[i] := by
  have hs : i < (strOfNums l).size := by rw [str_size]; exact h
  unfold bt
  rw [dif_pos (by simpa using hs)]
  have : (strOfNums l)[((i : Int)).toNat]'(by simpa using hs) = UInt8.ofNat (l[i]).toNat := by
    show (strOfNums l).data[((i : Int)).toNat]'_ = _
    simp [strOfNums]
  rw [this, UInt8.toNat_ofNat']
  omega
theorem PD_text {D : List Int} (hl : D.length ≤ 40) (hr : ∀ x ∈ D, 0 ≤ x ∧ x < 16) : PD (textD D) = D := by
  have hs : (textD D).size = D.length := by unfold textD; rw [str_size, List.length_map]
  apply List.ext_getElem
  · rw [PD_length, hs]; omega
  · intro i h1 h2
    have hx := hr _ (List.getElem_mem h2)
    have e : (PD (textD D))[i]'h1 = ix LET (bt (textD D) (i : Int)) := by simp [PD]
    rw [e]
    unfold textD
    rw [bt_str (by simpa using h2) (by rw [List.getElem_map]; exact letB_range hx.1 hx.2), List.getElem_map, letB_ix hx.1 hx.2]
theorem str_bytes (s : ByteArray) : strOfNums ((List.range s.size).map fun (i : Nat) => bt s (i : Int)) = s := by
  apply ByteArray.ext
  apply Array.ext
  · simp [strOfNums]
  · intro i h1 h2
    have hi : i < s.size := h2
    simp only [strOfNums, List.getElem_toArray, List.getElem_map, List.getElem_range]
    have : bt s (i : Int) = ((s[i]'hi).toNat : Int) := by unfold bt; rw [dif_pos (by simpa using hi)]; rfl
    rw [this]
    simp
    rfl
theorem text_PD {s : ByteArray} {b : Int} (hb : 2 ≤ b ∧ b ≤ 16) (h : canB (PD s) b = true) : textD (PD s) = s := by
  obtain ⟨hl, hne, hr, _⟩ := (canB_iff _ _).1 h
  rw [PD_length] at hl
  have hm : min s.size 41 = s.size := by omega
  have : (PD s).map letB = (List.range s.size).map fun (i : Nat) => bt s (i : Int) := by
    unfold PD
    rw [hm, List.map_map]
    refine List.map_congr_left (fun i hi => ?_)
    have := hr (ix LET (bt s (i : Int))) (List.mem_map.2 ⟨i, by rw [hm]; exact hi, rfl⟩)
    exact (ix_let this.1).2
  unfold textD
  rw [this]
  exact str_bytes s

/-! ### the draws of chapter 1 -/
theorem base_ev (l : List Int) (hl : Bytes l) (p s : Int) (hp : 0 ≤ p ∧ p ≤ 4611686018427387000) : ∃ v q t, spec_l1Cur_base.f l p s = some (v, q, t) ∧ p ≤ q ∧ q ≤ p + 2 ∧ 0 ≤ v ∧ v ≤ 17 := by
  obtain ⟨v, q, t, e, hm, h1, h2⟩ := among_ev l hl p s hp [10, 10, 10, 2, 3, 5, 7, 16, 12, 10, 10, 16, 1, 17, 0] (by decide)
  refine ⟨v, q, t, by unfold spec_l1Cur_base.f; rw [e]; rfl, h1, h2, ?_⟩
  simp at hm
  omega
theorem ten_pow {j : Nat} (h : j ≤ 11) : (0 : Int) < 10 ^ j ∧ (10 : Int) ^ j ≤ 100000000000 := by
  refine ⟨Int.pow_pos (by omega), ?_⟩
  have : ∀ i : Fin 12, (10 : Int) ^ i.val ≤ 100000000000 := by decide
  exact this ⟨j, by omega⟩
theorem sure_ev (l : List Int) (hl : Bytes l) (p s : Int) (hp : 0 ≤ p ∧ p ≤ 4611686018427386000) : ∃ v q t, Ev (fun k => spec_l1Cur_sureNumber.f k l p s) (v, q, t) ∧ p ≤ q ∧ q ≤ p + 100 ∧ 0 ≤ v ∧ v ≤ 1000000000000 := by
  have key : ∀ (d j : Nat) (x p s : Int), j + d ≤ 11 → 0 ≤ x → x < 10 ^ j → 0 ≤ p ∧ p ≤ 4611686018427386900 - 2 * d → ∃ v q t, Ev (fun k => spec_l1Cur_sureNumber.l0 k x (d : Int) l p s) (v, q, t) ∧ p ≤ q ∧ q ≤ p + 2 * d ∧ 0 ≤ v ∧ v ≤ 1000000000000 := by
    intro d
    induction d with
    | zero =>
      intro j x p s hj h0 h1 hp
      have := ten_pow (show j ≤ 11 by omega)
      exact ⟨x, p, s, Ev.step (fun k => by rw [spec_l1Cur_sureNumber.l0]) (Ev.neg (by omega) (Ev.now _)), by omega, by omega, h0, by omega⟩
    | succ d ih =>
      intro j x p s hj h0 h1 hp
      have := ten_pow (show j ≤ 11 by omega)
      have hps : (10 : Int) ^ (j + 1) = 10 ^ j * 10 := Int.pow_succ _ _
      obtain ⟨v, q, t, e, D⟩ := pick_ev l hl p s 10 (by omega)
      have hv0 := D.lo
      have hv1 := D.hi (by omega)
      have hq0 := D.from_
      have hq1 := D.to_
      have hw : wrap64 (wrap64 (x * 10) + v) = x * 10 + v := by rw [w64 (n := x * 10) (by omega) (by omega), w64 (by omega) (by omega)]
      have hw2 : wrap64 (((d + 1 : Nat) : Int) - 1) = (d : Int) := by rw [w64 (by omega) (by omega)]; omega
      obtain ⟨v2, q2, t2, e2, g0, g1, g2, g3⟩ := ih (j + 1) (x * 10 + v) q t (by omega) (by omega) (by omega) (by omega)
      refine ⟨v2, q2, t2, Ev.step (fun k => by rw [spec_l1Cur_sureNumber.l0]) (Ev.pos (by omega) (Ev.pure_bind e ?_)), by omega, by omega, g2, g3⟩
      simp only []
      rw [hw, hw2]
      exact e2
  obtain ⟨v, q, t, e, D⟩ := pick_ev l hl p s 8 (by omega)
  have hq0 := D.from_
  have hq1 := D.to_
  by_cases c0 : v = 0
  · obtain ⟨v2, q2, t2, e2, D2⟩ := pick_ev l hl q t 256 (by omega)
    have := D2.lo
    have := D2.hi (by omega)
    have := D2.from_
    have := D2.to_
    exact ⟨v2, q2, t2, Ev.pure_bind e (Ev.pos c0 (Ev.pure_bind e2 (Ev.now _))), by omega, by omega, by omega, by omega⟩
  by_cases c1 : v = 1
  · obtain ⟨v2, q2, t2, e2, hm, h1, h2⟩ := among_ev l hl q t (by omega) [0, 1, 9, 10, 99, 100, 153, 370, 1000, 6174, 9999, 999999999999, 1000000000000] (by decide)
    refine ⟨v2, q2, t2, Ev.pure_bind e (Ev.neg c0 (Ev.pos c1 (Ev.pure_bind e2 (Ev.now _)))), by omega, by omega, ?_, ?_⟩
    · simp at hm; omega
    · simp at hm; omega
  by_cases c2 : v = 2
  · obtain ⟨v2, q2, t2, e2, D2⟩ := pick_ev l hl q t 256 (by omega)
    have := D2.lo
    have h1 := D2.hi (by omega)
    have := D2.from_
    have := D2.to_
    obtain ⟨v3, q3, t3, e3, D3⟩ := pick_ev l hl q2 t2 256 (by omega)
    have h3 := D3.lo
    have := D3.hi (by omega)
    have := D3.from_
    have := D3.to_
    have hm : v2 * v3 ≤ 255 * 255 := by
      have a1 : v2 * v3 ≤ 255 * v3 := Int.mul_le_mul_of_nonneg_right (by omega) h3
      omega
    have hm0 : 0 ≤ v2 * v3 := Int.mul_nonneg (by omega) h3
    have hw : wrap64 (v2 * v3) = v2 * v3 := w64 (by omega) (by omega)
    refine ⟨v2 * v3, q3, t3, Ev.pure_bind e (Ev.neg c0 (Ev.neg c1 (Ev.pos c2 (Ev.pure_bind e2 (Ev.pure_bind e3 (Ev.some (by rw [hw]))))))), by omega, by omega, by omega, by omega⟩
  · obtain ⟨v2, q2, t2, e2, D2⟩ := pick_ev l hl q t 11 (by omega)
    have := D2.lo
    have := D2.hi (by omega)
    have := D2.from_
    have := D2.to_
    have hw : wrap64 (1 + v2) = (((1 + v2).toNat : Nat) : Int) := by rw [w64 (by omega) (by omega)]; omega
    obtain ⟨v3, q3, t3, e3, g0, g1, g2, g3⟩ := key (1 + v2).toNat 0 0 q2 t2 (by omega) (by omega) (by simp) (by omega)
    refine ⟨v3, q3, t3, Ev.pure_bind e (Ev.neg c0 (Ev.neg c1 (Ev.neg c2 (Ev.pure_bind e2 ?_)))), by omega, by omega, g2, g3⟩
    rw [hw]
    exact e3
theorem number_ev (l : List Int) (hl : Bytes l) (p s : Int) (hp : 0 ≤ p ∧ p ≤ 4611686018427385000) : ∃ v q t, Ev (fun k => spec_l1Cur_number.f k l p s) (v, q, t) ∧ p ≤ q ∧ q ≤ p + 200 := by
  obtain ⟨b, q, t, e, h1, h2⟩ := one_ev l hl p s 20 (by omega)
  cases b with
  | true =>
    obtain ⟨v2, q2, t2, e2, hm, g1, g2⟩ := among_ev l hl q t (by omega) [-1, 1000000000001, 4611686018427387904, -4611686018427387904] (by decide)
    exact ⟨v2, q2, t2, Ev.pure_bind e (Ev.pos rfl (Ev.pure_bind e2 (Ev.now _))), by omega, by omega⟩
  | false =>
    obtain ⟨v2, q2, t2, e2, g1, g2, _, _⟩ := sure_ev l hl q t (by omega)
    exact ⟨v2, q2, t2, Ev.pure_bind e (Ev.neg (by simp) (Ev.bind1 e2 (Ev.now _))), by omega, by omega⟩

theorem drawDigitsOf_ev (l : List Int) (hl : Bytes l) : ∃ n b, Ev (fun k => spec_DrawDigitsOf.f k l) (n, b) := by
  obtain ⟨v, q, t, e, h1, h2⟩ := number_ev l hl 0 0 (by omega)
  obtain ⟨v2, q2, t2, e2, _⟩ := base_ev l hl q t (by omega)
  exact ⟨v, v2, Ev.bind1 e (Ev.pure_bind e2 (Ev.now _))⟩
theorem drawTail_ev (l : List Int) (hl : Bytes l) (b : Int) (hb : 0 ≤ b ∧ b ≤ 17) (D : List Int) (hD : D.length ≤ 40) (p s : Int) (hp : 0 ≤ p ∧ p ≤ 4611686018427385000) : ∃ D', Ev (fun k => spec_DrawNumberOf.j0 k b D l p s) (D', b) := by
  have key : ∀ (d : Nat) (D : List Int) (p s : Int), D.length + d = 41 → 0 ≤ p ∧ p ≤ 4611686018427386000 - 2 * d → ∃ D', Ev (fun k => spec_DrawNumberOf.l0 k b D l p s) (D', b) := by
    intro d
    induction d with
    | zero =>
      intro D p s hd hp
      obtain ⟨v, q, t, e, D2⟩ := pick_ev l hl p s 2 (by omega)
      have := D2.lo
      have := D2.hi (by omega)
      have hw : wrap64 (40 + v) = 40 + v := w64 (by omega) (by omega)
      refine ⟨D, Ev.step (fun k => by rw [spec_DrawNumberOf.l0]) (Ev.pure_bind e ?_)⟩
      simp only [hw]
      exact Ev.neg (by omega) (Ev.now _)
    | succ d ih =>
      intro D p s hd hp
      obtain ⟨v, q, t, e, D2⟩ := pick_ev l hl p s 2 (by omega)
      have := D2.lo
      have := D2.hi (by omega)
      have := D2.from_
      have := D2.to_
      have hw : wrap64 (40 + v) = 40 + v := w64 (by omega) (by omega)
      by_cases c : (D.length : Int) < 40 + v
      · obtain ⟨D', e'⟩ := ih (D ++ [1]) q t (by simp; omega) (by omega)
        refine ⟨D', Ev.step (fun k => by rw [spec_DrawNumberOf.l0]) (Ev.pure_bind e ?_)⟩
        simp only [hw]
        exact Ev.pos c (Ev.pos (by omega) e')
      · refine ⟨D, Ev.step (fun k => by rw [spec_DrawNumberOf.l0]) (Ev.pure_bind e ?_)⟩
        simp only [hw]
        exact Ev.neg c (Ev.now _)
  obtain ⟨v, q, t, e, D2⟩ := pick_ev l hl p s 10 (by omega)
  have := D2.from_
  have := D2.to_
  by_cases c0 : v = 0
  · obtain ⟨v2, q2, t2, e2, _⟩ := among_ev l hl q t (by omega) [-1, 0, 1, b, wrap64 (b - 1), 4611686018427387904] (by simp)
    have hl2 : D.length < 17592186044416 := by omega
    exact ⟨_, Ev.step (fun k => by rw [spec_DrawNumberOf.j0]) (Ev.pure_bind e (Ev.pos c0 (Ev.pure_bind e2 (Ev.pos hl2 (Ev.now _)))))⟩
  by_cases c1 : v = 1
  · refine ⟨[0] ++ D, Ev.step (fun k => by rw [spec_DrawNumberOf.j0]) (Ev.pure_bind e (Ev.neg c0 (Ev.pos c1 ?_)))⟩
    simp only [Option.bind_some]
    exact Ev.pos (by simp; omega) (Ev.now _)
  by_cases c2 : v = 2
  · obtain ⟨D', e'⟩ := key (41 - D.length) D q t (by omega) (by omega)
    exact ⟨D', Ev.step (fun k => by rw [spec_DrawNumberOf.j0]) (Ev.pure_bind e (Ev.neg c0 (Ev.neg c1 (Ev.pos c2 e'))))⟩
  by_cases c3 : v = 3
  · exact ⟨_, Ev.step (fun k => by rw [spec_DrawNumberOf.j0]) (Ev.pure_bind e (Ev.neg c0 (Ev.neg c1 (Ev.neg c2 (Ev.pos c3 (Ev.now _))))))⟩
  · exact ⟨_, Ev.step (fun k => by rw [spec_DrawNumberOf.j0]) (Ev.pure_bind e (Ev.neg c0 (Ev.neg c1 (Ev.neg c2 (Ev.neg c3 (Ev.now _))))))⟩
theorem drawNumberOf_ev (l : List Int) (hl : Bytes l) : ∃ D b, Ev (fun k => spec_DrawNumberOf.f k l) (D, b) := by
  obtain ⟨v, q, t, e, h1, h2, h3, h4⟩ := sure_ev l hl 0 0 (by omega)
  obtain ⟨b, q2, t2, e2, g1, g2, g3, g4⟩ := base_ev l hl q t (by omega)
  by_cases c : baseB b = true
  · have A : Ask v b := ⟨h3, h4, ((baseB_iff b).1 c).1, ((baseB_iff b).1 c).2⟩
    obtain ⟨D', e'⟩ := drawTail_ev l hl b ⟨g3, g4⟩ (dgs b v) (dgs_len A).2 q2 t2 (by omega)
    exact ⟨D', b, Ev.bind1 e (Ev.pure_bind e2 (Ev.pure_bind (dgBase_b b) (Ev.pos c (Ev.bind1 (dgOf_ev A) e'))))⟩
  · obtain ⟨D', e'⟩ := drawTail_ev l hl b ⟨g3, g4⟩ [] (by simp) q2 t2 (by omega)
    exact ⟨D', b, Ev.bind1 e (Ev.pure_bind e2 (Ev.pure_bind (dgBase_b b) (Ev.neg c e')))⟩
/-! #### a spoilt text -/
theorem ext_size (s : ByteArray) (a b : Nat) : (s.extract a b).size = min b s.size - a := ByteArray.size_extract
theorem app_size (a b : ByteArray) : (a ++ b).size = a.size + b.size := ByteArray.size_append
theorem spoilt_ev (l : List Int) (hl : Bytes l) (p s : Int) (hp : 0 ≤ p ∧ p ≤ 4611686018427385000) (x w : ByteArray) (hx : x.size ≤ 1000) (hw : 0 < w.size ∧ w.size ≤ 100) : ∃ y q t, Ev (fun k => spec_l1Cur_spoilt.f k l p s x w) (y, q, t) := by
  have key : ∀ (d : Nat) (x : ByteArray) (p s : Int), x.size + d ≤ 2000 → 0 ≤ p ∧ p ≤ 4611686018427386000 - 10 * d → ∃ y q t, Ev (fun k => spec_l1Cur_spoilt.l0 k x w (d : Int) l p s) (y, q, t) := by
    intro d
    induction d with
    | zero =>
      intro x p s hx hp
      exact ⟨x, p, s, Ev.step (fun k => by rw [spec_l1Cur_spoilt.l0]) (Ev.neg (by omega) (Ev.step (fun k => by rw [spec_l1Cur_spoilt.j1]) (Ev.neg (by simp) (Ev.now _))))⟩
    | succ d ih =>
      intro x p s hx hp
      by_cases c : (x.size : Int) > 0
      · obtain ⟨i, q, t, e, D⟩ := pick_ev l hl p s (x.size : Int) (by omega)
        have i0 := D.lo
        have i1 : i < (x.size : Int) := by
          by_cases c1 : 1 < (x.size : Int)
          · exact D.hi c1
          · have := D.one (by omega); omega
        have := D.from_
        have := D.to_
        obtain ⟨j, q2, t2, e2, D2⟩ := pick_ev l hl q t (w.size : Int) (by omega)
        have j0 := D2.lo
        have j1 : j < (w.size : Int) := by
          by_cases c1 : 1 < (w.size : Int)
          · exact D2.hi c1
          · have := D2.one (by omega); omega
        have := D2.from_
        have := D2.to_
        obtain ⟨v, q3, t3, e3, D3⟩ := pick_ev l hl q2 t2 3 (by omega)
        have := D3.from_
        have := D3.to_
        have hs1 : (strOfNums [bt w j]).size = 1 := str_size _
        have hwi : wrap64 (i + 1) = i + 1 := w64 (by omega) (by omega)
        have hwd : wrap64 (((d + 1 : Nat) : Int) - 1) = (d : Int) := by rw [w64 (by omega) (by omega)]; omega
        have a1 := ext_size x 0 i.toNat
        have a2 := ext_size x i.toNat x.size
        have a3 := ext_size x (i + 1).toNat x.size
        have a4 := app_size (x.extract 0 i.toNat) (strOfNums [bt w j])
        have a5 := app_size (x.extract 0 i.toNat ++ strOfNums [bt w j]) (x.extract i.toNat x.size)
        have a6 := app_size (x.extract 0 i.toNat ++ strOfNums [bt w j]) (x.extract (i + 1).toNat x.size)
        have a7 := app_size (x.extract 0 i.toNat) (x.extract (i + 1).toNat x.size)
        have enter : ∀ (R : ByteArray × Int × Int) (G : Nat → Option (ByteArray × Int × Int)), (∀ k, spec_l1Cur_spoilt.j1 (k + 1) x w ((d + 1 : Nat) : Int) true l p s = G k) → Ev G R → Ev (fun k => spec_l1Cur_spoilt.l0 k x w ((d + 1 : Nat) : Int) l p s) R := by
          intro R G h hG
          refine Ev.step (fun k => by rw [spec_l1Cur_spoilt.l0]) (Ev.pos (by omega) ?_)
          rw [decide_eq_true c]
          exact Ev.step h hG
        by_cases c0 : v = 0
        · obtain ⟨y, q4, t4, e4⟩ := ih ((x.extract 0 i.toNat ++ strOfNums [bt w j]) ++ x.extract i.toNat x.size) q3 t3 (by omega) (by omega)
          refine ⟨y, q4, t4, enter _ _ (fun k => by rw [spec_l1Cur_spoilt.j1, if_pos rfl]) (Ev.pure_bind e (Ev.pure_bind e2 (Ev.pos j0 (Ev.pos j1 ?_))))⟩
          simp only [Option.bind_some]
          refine Ev.pure_bind e3 (Ev.pos c0 ?_)
          simp only [hwd]
          exact Ev.pos i0 (Ev.pos (by omega) (Ev.pos (by omega) (Ev.pos (by omega) e4)))
        by_cases c1 : v = 1
        · obtain ⟨y, q4, t4, e4⟩ := ih ((x.extract 0 i.toNat ++ strOfNums [bt w j]) ++ x.extract (i + 1).toNat x.size) q3 t3 (by omega) (by omega)
          refine ⟨y, q4, t4, enter _ _ (fun k => by rw [spec_l1Cur_spoilt.j1, if_pos rfl]) (Ev.pure_bind e (Ev.pure_bind e2 (Ev.pos j0 (Ev.pos j1 ?_))))⟩
          simp only [Option.bind_some]
          refine Ev.pure_bind e3 (Ev.neg c0 (Ev.pos c1 ?_))
          simp only [hwd, hwi]
          exact Ev.pos i0 (Ev.pos (by omega) (Ev.pos (by omega) (Ev.pos (by omega) (Ev.pos (by omega) (Ev.pos (by omega) e4)))))
        · obtain ⟨y, q4, t4, e4⟩ := ih (x.extract 0 i.toNat ++ x.extract (i + 1).toNat x.size) q3 t3 (by omega) (by omega)
          refine ⟨y, q4, t4, enter _ _ (fun k => by rw [spec_l1Cur_spoilt.j1, if_pos rfl]) (Ev.pure_bind e (Ev.pure_bind e2 (Ev.pos j0 (Ev.pos j1 ?_))))⟩
          simp only [Option.bind_some]
          refine Ev.pure_bind e3 (Ev.neg c0 (Ev.neg c1 ?_))
          simp only [hwd, hwi]
          exact Ev.pos i0 (Ev.pos (by omega) (Ev.pos (by omega) (Ev.pos (by omega) (Ev.pos (by omega) e4))))
      · refine ⟨x, p, s, Ev.step (fun k => by rw [spec_l1Cur_spoilt.l0]) (Ev.pos (by omega) ?_)⟩
        rw [decide_eq_false c]
        exact Ev.step (fun k => by rw [spec_l1Cur_spoilt.j1]) (Ev.neg (by simp) (Ev.now _))
  obtain ⟨v, q, t, e, D⟩ := pick_ev l hl p s 2 (by omega)
  have := D.lo
  have := D.hi (by omega)
  have := D.from_
  have := D.to_
  have hw1 : wrap64 (1 + v) = (((1 + v).toNat : Nat) : Int) := by rw [w64 (by omega) (by omega)]; omega
  obtain ⟨y, q2, t2, e2⟩ := key (1 + v).toNat x q t (by omega) (by omega)
  refine ⟨y, q2, t2, Ev.pure_bind e ?_⟩
  rw [hw1]
  exact e2
theorem drawParse_ev (l : List Int) (hl : Bytes l) : ∃ s b, Ev (fun k => spec_DrawParseNumber.f k l) (s, b) := by
  obtain ⟨v, q, t, e, h1, h2, h3, h4⟩ := sure_ev l hl 0 0 (by omega)
  obtain ⟨b, q2, t2, e2, g1, g2, g3, g4⟩ := base_ev l hl q t (by omega)
  have tail : ∀ (x : ByteArray), x.size ≤ 1000 → ∃ s, Ev (fun k => spec_DrawParseNumber.j0 k b x l q2 t2) (s, b) := by
    intro x hx
    obtain ⟨c, q3, t3, e3, k1, k2⟩ := one_ev l hl q2 t2 3 (by omega)
    cases c with
    | true =>
      obtain ⟨y, q4, t4, e4⟩ := spoilt_ev l hl q3 t3 (by omega) x ⟨#[48, 49, 57, 97, 102, 103, 45]⟩ hx (by decide)
      refine ⟨y, Ev.step (fun k => by rw [spec_DrawParseNumber.j0]) (Ev.pure_bind e3 ?_)⟩
      refine Ev.pos rfl ?_
      exact Ev.bind1 e4 (Ev.now (y, b))
    | false =>
      refine ⟨x, Ev.step (fun k => by rw [spec_DrawParseNumber.j0]) (Ev.pure_bind e3 ?_)⟩
      exact Ev.neg (show ¬ false = true by simp) (Ev.now _)
  by_cases c : baseB b = true
  · have A : Ask v b := ⟨h3, h4, ((baseB_iff b).1 c).1, ((baseB_iff b).1 c).2⟩
    obtain ⟨s, e'⟩ := tail (textD (dgs b v)) (by unfold textD; rw [str_size, List.length_map]; have := dgs_len A; omega)
    exact ⟨s, b, Ev.bind1 e (Ev.pure_bind e2 (Ev.pure_bind (dgBase_b b) (Ev.pos c (Ev.bind1 (textOf_ev A).2 e'))))⟩
  · obtain ⟨s, e'⟩ := tail ⟨#[49, 50, 48]⟩ (by decide)
    exact ⟨s, b, Ev.bind1 e (Ev.pure_bind e2 (Ev.pure_bind (dgBase_b b) (Ev.neg c e')))⟩

/-! ### the law -/
theorem tt_ne : ¬ (true != true) = true := by simp
theorem ff_ne : ¬ (false != false) = true := by simp
theorem rSame_ev (a : List Int) (hb : (a.length : Int) ≤ 4611686018427387904) : Ev (fun k => laws_rSame.f k a a) true := by
  have h := same_l0 laws_rSame.l0 (fun k x0 x1 x12 x13 => by rw [laws_rSame.l0]) a a rfl hb
  rw [decide_eq_true rfl] at h
  exact Ev.pos rfl h
theorem rSum_ev (l : List Int) (h : ∀ x ∈ l, 0 ≤ x) (hs : lsum l < 9223372036854775808) (hb : (l.length : Int) ≤ 4611686018427387904) : Ev (fun k => laws_rSum.f k l) (lsum l) := by
  have h2 := fold_l0 laws_rSum.l0 (fun a d => wrap64 (a + d)) (fun k a xs n i => by rw [laws_rSum.l0]) l 0 hb
  rw [foldw_sum _ 0 (by omega) h (by omega), Int.zero_add] at h2
  exact h2
theorem DigitalRoot_ev (n b : Int) : ∃ R : Int × Bool, Ev (fun k => impl_DigitalRoot.f k n b) R ∧ Ev (fun k => spec_DigitalRoot.f k n b) R ∧ R.2 = askB n b ∧ (Ask n b → Root n b R.1) := by
  by_cases c : askB n b = true
  · have A := (askB_iff n b).1 c
    obtain ⟨r, e1, e2, R⟩ := root_ev A
    exact ⟨(r, true), Ev.pure_bind (isNumber_b n b) (Ev.pos c e1), Ev.pure_bind (dgAsked_b n b) (Ev.pos c e2), c.symm, fun _ => R⟩
  · exact ⟨(0, false), Ev.pure_bind (isNumber_b n b) (Ev.neg c (Ev.now _)), Ev.pure_bind (dgAsked_b n b) (Ev.neg c (Ev.now _)), (Bool.eq_false_iff.2 c).symm, fun A => absurd ((askB_iff n b).2 A) c⟩
theorem lawTail_ev (l1 : List Int) (hl : Bytes l1) : Ev (fun k => laws_FnDigitsTellNumbers.j1 k l1) true := by
  obtain ⟨D, b, e1⟩ := drawNumberOf_ev l1 hl
  obtain ⟨s, b2, e2⟩ := drawParse_ev l1 hl
  have hn := NumberOf_ev D b
  have ha := AreDigits_ev D b
  have hp := parse_ev s b2
  have hq := sparse_ev s b2
  rw [parse_eq] at hq
  have text : ∀ (x : Bool), x = false → Ev (fun k => laws_FnDigitsTellNumbers.j2 k s b2 (numOf (PD s) b2).1 (numOf (PD s) b2).2 x) true := by
    intro x hx
    subst hx
    refine Ev.step (fun k => by rw [laws_FnDigitsTellNumbers.j2]) (Ev.neg (by simp) ?_)
    by_cases c : (numOf (PD s) b2).2 = true
    · obtain ⟨A, hd, hC⟩ := numOf_true c
      have h := (NumberText_ev (numOf (PD s) b2).1 b2).1
      rw [if_pos ((askB_iff _ _).2 A), hd, text_PD ⟨A.b2, A.b16⟩ hC] at h
      refine Ev.pos c (Ev.bind1 h ?_)
      refine Ev.pos rfl (Ev.some ?_)
      simp
    · exact Ev.neg c (Ev.now _)
  refine Ev.step (fun k => by rw [laws_FnDigitsTellNumbers.j1]) ?_
  refine Ev.bind1 e1 (Ev.bind1 hn.1 (Ev.bind1 hn.2 (Ev.pure_bind ha.1 (Ev.bind1 ha.2 (Ev.bind1 e2 (Ev.bind1 hp (Ev.bind1 hq ?_)))))))
  refine Ev.neg (by simp) (Ev.pos rfl (Ev.neg (by simp) (Ev.neg (by simp) (Ev.neg (by simp) (Ev.pos rfl ?_)))))
  by_cases c : (numOf D b).2 = true
  · have hA : (areOf D b).1 = true := by
      obtain ⟨A, hd, hC⟩ := numOf_true c
      unfold areOf
      have hB : baseB b = true := (baseB_iff b).2 ⟨A.b2, A.b16⟩
      have hl := ((canB_iff D b).1 hC).1
      rw [hB, if_pos (by simp; omega)]
      exact hC
    refine Ev.pos c (text _ ?_)
    simp only [hA, Bool.not_true]
  · exact Ev.neg c (text _ rfl)
theorem lawLoop_ev {n b : Int} (A : Ask n b) (l1 : List Int) (hl : Bytes l1) (R : Int × Bool) (hR : Root n b R.1) :
    Ev (fun k => laws_FnDigitsTellNumbers.l0 k l1 n b (dgs b n) (dsum b n) (lprodw (dgs b n)) (cnts b n) R.1 (textD (dgs b n)) n true true true ((dgs b n).length : Int) true n true 1 (dgs b n) ((dgs b n).length : Int) 0) true := by
  have hlen := dgs_len A
  have hb := A.b2
  have hb16 := A.b16
  have hcs := cnts_sum A
  have hs := dgs_lsum_small A
  have hr := dgs_range (n := n) A.b2
  have hsz : (textD (dgs b n)).size = (dgs b n).length := by unfold textD; rw [str_size, List.length_map]
  have hcl : (cnts b n).length = b.toNat := by unfold cnts; rw [incs_length, List.length_replicate]
  have hsum : lsum (dgs b n) = dsum b n := rfl
  have h0 := A.n0
  have h1 := A.n1
  have hr0 := hR.r0
  have hr1 := hR.r1
  have hrp := hR.pos
  have hw1 : wrap64 (b - 1) = b - 1 := w64 (by omega) (by omega)
  have hw2 : wrap64 (n - R.1) = n - R.1 := w64 (by omega) (by omega)
  have hmod : Int.tmod (n - R.1) (b - 1) = 0 := by
    obtain ⟨q, e⟩ := hR.div
    rw [e]; exact Int.mul_tmod_right _ _
  have e1 := rSum_ev (cnts b n) hcs.2 (by omega) (by omega)
  have e2 := rSum_ev (dgs b n) (fun x hx => (hr x hx).1) (by omega) (by omega)
  rw [hcs.1] at e1
  rw [hsum] at e2
  refine foldE_l0 (fun k a xs n' i => laws_FnDigitsTellNumbers.l0 k l1 n b (dgs b n) (dsum b n) (lprodw (dgs b n)) (cnts b n) R.1 (textD (dgs b n)) n true true true ((dgs b n).length : Int) true n true a xs n' i) (fun a d => wrap64 (a * d)) _ (fun k a xs n i => by rw [laws_FnDigitsTellNumbers.l0]) (dgs b n) 1 true (by omega) ?_
  refine Ev.pos rfl (Ev.pos rfl (Ev.pos rfl (Ev.pos rfl (Ev.pos rfl (Ev.pos rfl ?_)))))
  refine Ev.bind1 e1 (Ev.pos rfl (Ev.bind1 e2 (Ev.pos rfl (Ev.pos rfl (Ev.pos rfl (Ev.pos rfl (Ev.pos (by omega) ?_)))))))
  rw [hw1, hw2]
  refine Ev.neg (by omega) (Ev.pos hmod (Ev.neg (by omega) ?_))
  by_cases c : n > 0
  · exact Ev.pos c (Ev.neg (by have := hrp c; omega) (lawTail_ev l1 hl))
  · exact Ev.neg c (lawTail_ev l1 hl)
theorem FnDigitsTellNumbers : laws_FnDigitsTellNumbers.Pure := by
  intro l0 l1 _ _ hw0 _ _ hw1
  have B0 := Bytes.of hw0
  have B1 := Bytes.of hw1
  by_cases c : (1048576 < (l0.length : Int) ∨ 1048576 < (l0.length : Int) + (l1.length : Int))
  · exact ⟨0, by unfold laws_FnDigitsTellNumbers.f; rw [big_f, decide_eq_true c]; rfl⟩
  refine Ev.rounds (r := true) ?_
  refine Ev.pure_bind (big_f l0 l1) (Ev.neg (by simpa using c) ?_)
  obtain ⟨n, b, e⟩ := drawDigitsOf_ev l0 B0
  have d1 := DigitsOf_ev n b
  have d2 := DigitSum_ev n b
  have d3 := DigitProduct_ev n b
  have d4 := DigitCounts_ev n b
  obtain ⟨R, d5, d6, hR2, hR⟩ := DigitalRoot_ev n b
  have d7 := NumberText_ev n b
  obtain ⟨R1, R2⟩ := R
  by_cases c2 : askB n b = true
  · have A := (askB_iff n b).1 c2
    have hlen := dgs_len A
    have hcl : (cnts b n).length = b.toNat := by unfold cnts; rw [incs_length, List.length_replicate]
    have hb16 := A.b16
    obtain rfl : R2 = true := hR2.trans c2
    rw [if_pos c2] at d1 d2 d3 d4 d7
    have n1 := (NumberOf_ev (dgs b n) b).1
    rw [(numOf_dgs A).1] at n1
    have n2 := (AreDigits_ev (dgs b n) b).1
    rw [(numOf_dgs A).2] at n2
    have n3 : Ev (fun k => impl_CountDigits.f k n b) ((((dgs b n).length : Int)), true) := Ev.pure_bind (isNumber_b n b) (Ev.pos c2 (Ev.bind1 (digitsOf_ev A) (Ev.now _)))
    have n4 := parse_ev (textD (dgs b n)) b
    rw [PD_text hlen.2 (fun x hx => by have := dgs_range A.b2 x hx; omega), (numOf_dgs A).1] at n4
    have s1 := rSame_ev (dgs b n) (by omega)
    have s2 := rSame_ev (cnts b n) (by omega)
    refine Ev.bind1 e (Ev.bind1 d1.1 (Ev.bind1 d1.2 (Ev.bind1 d2.1 (Ev.bind1 d2.2 (Ev.bind1 d3.1 (Ev.bind1 d3.2 (Ev.bind1 d4.1 (Ev.bind1 d4.2 (Ev.bind1 d5 (Ev.bind1 d6 (Ev.bind1 d7.1 (Ev.bind1 d7.2 ?_))))))))))))
    refine Ev.neg tt_ne (Ev.bind1 s1 (Ev.pos rfl (Ev.neg tt_ne (Ev.pos rfl (Ev.neg tt_ne (Ev.pos rfl (Ev.neg tt_ne ?_)))))))
    refine Ev.bind1 s2 (Ev.pos rfl (Ev.neg tt_ne (Ev.pos rfl (Ev.neg tt_ne (Ev.pos rfl ?_)))))
    refine Ev.neg tt_ne (Ev.neg tt_ne (Ev.neg tt_ne (Ev.neg tt_ne (Ev.neg tt_ne (Ev.pos rfl ?_)))))
    exact Ev.bind1 n1 (Ev.pure_bind n2 (Ev.bind1 n3 (Ev.bind1 n4 (lawLoop_ev A l1 B1 (R1, true) (hR A)))))
  · have c3 := Bool.eq_false_iff.2 c2
    obtain rfl : R2 = false := hR2.trans c3
    rw [if_neg c2] at d1 d2 d3 d4 d7
    have s1 := rSame_ev [] (by simp)
    refine Ev.bind1 e (Ev.bind1 d1.1 (Ev.bind1 d1.2 (Ev.bind1 d2.1 (Ev.bind1 d2.2 (Ev.bind1 d3.1 (Ev.bind1 d3.2 (Ev.bind1 d4.1 (Ev.bind1 d4.2 (Ev.bind1 d5 (Ev.bind1 d6 (Ev.bind1 d7.1 (Ev.bind1 d7.2 ?_))))))))))))
    refine Ev.neg ff_ne (Ev.bind1 s1 (Ev.pos rfl (Ev.neg ff_ne (Ev.pos rfl (Ev.neg ff_ne (Ev.pos rfl (Ev.neg ff_ne ?_)))))))
    refine Ev.bind1 s1 (Ev.pos rfl (Ev.neg ff_ne (Ev.pos rfl (Ev.neg ff_ne (Ev.pos rfl ?_)))))
    refine Ev.neg ff_ne (Ev.neg ff_ne (Ev.neg ff_ne (Ev.neg ff_ne (Ev.neg ff_ne (Ev.neg (show ¬ false = true by simp) ?_)))))
    exact lawTail_ev l1 B1

end Go.Proofs.Ythamjbfdhghbbaa.Pure
