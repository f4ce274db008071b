/- Sums with the same backwards are made place by place; without carries they are symmetric, and differences are told; for all inputs. -/
import Derived.Test.YthamjbfdhghbbaaPFnAddedBackwardsx
namespace Go.Proofs.Ythamjbfdhghbbaa.Pure
open Go.RowKit Go.Proofs.Ythamjbfdhghbbaa.PFnAddedBackwards Go.Proofs.YthamjbfdhghbbaaW.PrintWords Go.Proofs.YthamjbfdhghbbaaW.PrintLast
set_option linter.unusedVariables false
set_option linter.unusedSimpArgs false
/-! ### words on rounds and on int's wraps -/
theorem Ev.pos {α : Type} {c : Prop} [Decidable c] {g f : Nat → Option α} {r : α} (hc : c) (h : Ev g r) : Ev (fun k => if c then g k else f k) r := Ev.congr (fun _ => if_pos hc) h
theorem Ev.neg {α : Type} {c : Prop} [Decidable c] {g f : Nat → Option α} {r : α} (hc : ¬ c) (h : Ev f r) : Ev (fun k => if c then g k else f k) r := Ev.congr (fun _ => if_neg hc) h
theorem Ev.some {α : Type} {a r : α} (h : a = r) : Ev (fun _ => Option.some a) r := h ▸ Ev.now a
theorem Ev.bind1 {α β : Type} {g : Nat → Option α} {f : Nat → α → Option β} {a : α} {r : β} (h : Ev g a) (k : Ev (fun n => f n a) r) : Ev (fun n => (g n).bind (f n)) r := Ev.bind h k
theorem Ev.pure_bind {α β : Type} {o : Option α} {f : Nat → α → Option β} {a : α} {r : β} (h : o = Option.some a) (k : Ev (fun n => f n a) r) : Ev (fun n => o.bind (f n)) r := by
  subst h; exact k
theorem Ev.two {α β : Type} {g : Nat → Option α} {f : Nat → Option β} {a : α} {b : β} (h : Ev g a) (k : Ev f b) : ∃ n, g n = Option.some a ∧ f n = Option.some b := by
  obtain ⟨K, h⟩ := h
  obtain ⟨K', k⟩ := k
  exact ⟨max K K', h _ (by omega), k _ (by omega)⟩
theorem w64 {n : Int} (h0 : -9223372036854775808 ≤ n) (h1 : n < 9223372036854775808) : wrap64 n = n := by unfold wrap64; omega
theorem w64_emod (n : Int) : wrap64 n % 18446744073709551616 = n % 18446744073709551616 := by unfold wrap64; omega
theorem w64_congr {a b : Int} (h : a % 18446744073709551616 = b % 18446744073709551616) : wrap64 a = wrap64 b := by unfold wrap64; omega
theorem w64_lo (n : Int) : -9223372036854775808 ≤ wrap64 n := by unfold wrap64; omega
theorem w64_hi (n : Int) : wrap64 n < 9223372036854775808 := by unfold wrap64; omega
theorem int_wf {a : Int} (h : (Lit.int .i64 a).wf = true) : -9223372036854775808 ≤ a ∧ a ≤ 9223372036854775807 := by
  simp [Lit.wf] at h
  exact ⟨h.1, h.2⟩

/-! ### first places in lists -/
theorem rd_get {xs : List Int} {i : Nat} (h : i < xs.length) : rd xs (i : Int) = xs[i] := by
  simp [rd, List.getD_eq_getElem?_getD, List.getElem?_eq_getElem h]
/-- The first place of s, or -1. -/
def ix (l : List Int) (s : Int) : Int := match l.findIdx? (fun x => x == s) with | some i => (i : Int) | none => -1
theorem ix_some {l : List Int} {s : Int} {i : Nat} (h : i < l.length) (he : l[i] = s) (hn : ∀ x ∈ l.take i, x ≠ s) : ix l s = i := by
  unfold ix
  rw [List.findIdx?_eq_some_iff_getElem.2 ⟨h, by simpa using he, fun j hj => ?_⟩]
  have := hn (l[j]'(by omega)) (List.mem_take_iff_getElem.2 ⟨j, by omega, rfl⟩)
  simpa using this
theorem ix_none {l : List Int} {s : Int} (hn : ∀ x ∈ l, x ≠ s) : ix l s = -1 := by
  unfold ix
  rw [List.findIdx?_eq_none_iff.2 (fun x hx => by simpa using hn x hx)]
theorem ix_mem {l : List Int} {s : Int} (h : s ∈ l) : ∃ i : Nat, ix l s = i ∧ ∃ hl : i < l.length, l[i] = s ∧ ∀ j (hj : j < i), l[j]'(by omega) ≠ s := by
  unfold ix
  cases hf : l.findIdx? (fun x => x == s) with
  | none =>
    have := List.findIdx?_eq_none_iff.1 hf s h
    simp at this
  | some i =>
    obtain ⟨hl, he, hn⟩ := List.findIdx?_eq_some_iff_getElem.1 hf
    exact ⟨i, rfl, hl, by simpa using he, fun j hj => by simpa using hn j hj⟩
theorem take_ne_succ {l : List Int} {s : Int} {i : Nat} (h : i < l.length) (hne : ¬ l[i] = s) (hn : ∀ x ∈ l.take i, x ≠ s) : ∀ x ∈ l.take (i + 1), x ≠ s := by
  intro x hx
  rw [List.take_succ_eq_append_getElem h, List.mem_append] at hx
  rcases hx with hx | hx
  · exact hn x hx
  · simp at hx; rw [hx]; exact hne

theorem index_ev (l : List Int) (s : Int) (hl : (l.length : Int) ≤ 4611686018427387904) : Ev (fun k => slices_Index_int_int.f k l s) (ix l s) := by
  have key : ∀ (d i : Nat), l.length = i + d → (∀ x ∈ l.take i, x ≠ s) → Ev (fun k => slices_Index_int_int.l0 k l s (l.length : Int) (i : Int)) (ix l s) := by
    intro d
    induction d with
    | zero =>
      intro i h hn
      refine Ev.step (fun k => by rw [slices_Index_int_int.l0]) (Ev.neg (by omega) (Ev.some (ix_none (fun x hx => hn x (by rw [List.take_of_length_le (by omega)]; exact hx))).symm))
    | succ d ih =>
      intro i h hn
      have hlt : i < l.length := by omega
      have hlt2 : (i : Int) < (l.length : Int) := by omega
      have hw : wrap64 ((i : Int) + 1) = ((i + 1 : Nat) : Int) := by rw [w64 (by omega) (by omega)]; rfl
      by_cases c : l[i] = s
      · exact Ev.step (fun k => by rw [slices_Index_int_int.l0]) (Ev.pos hlt2 (Ev.pos (Int.natCast_nonneg i) (Ev.pos hlt2 (Ev.pos (by rw [rd_get hlt]; exact c.symm) (Ev.some (ix_some hlt c hn).symm)))))
      · refine Ev.step (fun k => by rw [slices_Index_int_int.l0]) (Ev.pos hlt2 (Ev.pos (Int.natCast_nonneg i) (Ev.pos hlt2 (Ev.neg (by rw [rd_get hlt]; exact fun h => c h.symm) ?_))))
        rw [hw]; exact ih (i + 1) (by omega) (take_ne_succ hlt c hn)
  exact key l.length 0 (by omega) (by simp)
theorem ix_range {l : List Int} {s : Int} : ix l s = -1 ∧ s ∉ l ∨ 0 ≤ ix l s ∧ ix l s < l.length ∧ s ∈ l := by
  by_cases h : s ∈ l
  · obtain ⟨i, e, hl, _⟩ := ix_mem h
    rw [e]; exact .inr ⟨by omega, by omega, h⟩
  · exact .inl ⟨ix_none (fun x hx he => h (he ▸ hx)), h⟩
theorem contains_ev (l : List Int) (s : Int) (hl : (l.length : Int) ≤ 4611686018427387904) : Ev (fun k => slices_Contains_int_int.f k l s) (decide (s ∈ l)) := by
  refine Ev.bind (index_ev l s hl) (Ev.some ?_)
  rcases @ix_range l s with ⟨h1, h2⟩ | ⟨h1, h2, h3⟩
  · rw [h1, decide_eq_false h2]; decide
  · rw [decide_eq_true h3, decide_eq_true h1]

/-! ### words on lists by their numbers -/
theorem rd_q (xs : List Int) (i : Nat) : rd xs (i : Int) = (xs[i]?).getD 0 := by simp [rd, List.getD_eq_getElem?_getD]
theorem rd_el {xs : List Int} {i : Nat} (h : i < xs.length) : rd xs (i : Int) = xs[i] := by rw [rd_q, List.getElem?_eq_getElem h]; rfl
theorem rd_mem {xs : List Int} {i : Nat} (h : i < xs.length) : rd xs (i : Int) ∈ xs := by rw [rd_el h]; exact List.getElem_mem h
theorem rd_ext {a b : List Int} (hl : a.length = b.length) (h : ∀ p < a.length, rd a (p : Int) = rd b (p : Int)) : a = b := by
  apply List.ext_getElem hl
  intro p h1 h2
  rw [← rd_el h1, ← rd_el h2]
  exact h p h1
theorem rd_set (xs : List Int) (i p : Nat) (v : Int) (hi : i < xs.length) : rd (xs.set i v) (p : Int) = if p = i then v else rd xs (p : Int) := by
  rw [rd_q, rd_q, List.getElem?_set]
  by_cases c : p = i
  · subst c; rw [if_pos rfl, if_pos rfl, if_pos hi]; rfl
  · rw [if_neg c, if_neg (fun h => c h.symm)]
theorem rd_rev {xs : List Int} {p : Nat} (h : p < xs.length) : rd xs.reverse (p : Int) = rd xs ((xs.length - 1 - p : Nat) : Int) := by
  rw [rd_el (by simpa using h), rd_el (by omega), List.getElem_reverse]
theorem rd_tab (f : Nat → Int) {n p : Nat} (h : p < n) : rd ((List.range n).map f) (p : Int) = f p := by
  rw [rd_el (by simpa using h)]; simp
theorem rd_cons0 (x : Int) (t : List Int) : rd (x :: t) 0 = x := rfl
theorem rd_append_left {a b : List Int} {p : Nat} (h : p < a.length) : rd (a ++ b) (p : Int) = rd a (p : Int) := by rw [rd_q, rd_q, List.getElem?_append_left h]
theorem rd_append_right {a b : List Int} {p : Nat} : rd (a ++ b) ((a.length + p : Nat) : Int) = rd b (p : Int) := by rw [rd_q, rd_q, List.getElem?_append_right (by omega)]; congr 2; omega
theorem rd_drop (a : List Int) (i p : Nat) : rd (a.drop i) (p : Int) = rd a ((i + p : Nat) : Int) := by rw [rd_q, rd_q, List.getElem?_drop]
theorem tab_succ (f : Nat → Int) (n : Nat) : (List.range (n + 1)).map f = (List.range n).map f ++ [f n] := by rw [List.range_succ, List.map_append]; rfl
/-! #### loops that compare -/
section
variable (L : Nat → List Int → List Int → Int → Int → Option Bool)
  (h0 : ∀ k x0 x1 x12 x13, L (k + 1) x0 x1 x12 x13 = if x13 < x12 then (if 0 ≤ x13 then (if x13 < (x0.length : Int) then (if x13 < (x1.length : Int) then (if (rd x0 x13) = (rd x1 x13) then (L k x0 x1 x12 (wrap64 (x13 + 1))) else (some false)) else (none)) else (none)) else (none)) else (some true))
include h0
theorem same_l0 (a b : List Int) (hl : a.length = b.length) (hb : (a.length : Int) ≤ 4611686018427387904) : Ev (fun k => L k a b (a.length : Int) 0) (decide (a = b)) := by
  have key : ∀ (d i : Nat), i + d = a.length → (∀ p < i, rd a (p : Int) = rd b (p : Int)) → Ev (fun k => L k a b (a.length : Int) (i : Int)) (decide (a = b)) := by
    intro d
    induction d with
    | zero =>
      intro i hi hp
      rw [decide_eq_true (rd_ext hl (fun p h => hp p (by omega)))]
      exact Ev.step (fun k => h0 k _ _ _ _) (Ev.neg (by omega) (Ev.now _))
    | succ d ih =>
      intro i hi hp
      have hw : wrap64 ((i : Int) + 1) = ((i + 1 : Nat) : Int) := by rw [w64 (by omega) (by omega)]; omega
      refine Ev.step (fun k => h0 k _ _ _ _) (Ev.pos (by omega) (Ev.pos (by omega) (Ev.pos (by omega) (Ev.pos (by omega) ?_))))
      by_cases c : rd a (i : Int) = rd b (i : Int)
      · refine Ev.pos c ?_
        rw [hw]
        exact ih (i + 1) (by omega) (fun p h => by
          by_cases e : p = i
          · rw [e]; exact c
          · exact hp p (by omega))
      · rw [decide_eq_false (fun e => c (by rw [e]))]
        exact Ev.neg c (Ev.now _)
  exact key a.length 0 (by omega) (fun p h => by omega)
end
section
variable (L : Nat → List Int → List Int → Int → Option (List Int))
  (h0 : ∀ k x0 x3 x4, L (k + 1) x0 x3 x4 = if x4 ≥ 0 then (if 0 ≤ x4 then (if x4 < (x0.length : Int) then (if x3.length < 17592186044416 then (L k x0 (x3 ++ [rd x0 x4]) (wrap64 (x4 - 1))) else (none)) else (none)) else (none)) else (some x3))
include h0
theorem back_l0 (a : List Int) (hb : (a.length : Int) ≤ 1048576) : Ev (fun k => L k a [] (wrap64 ((a.length : Int) - 1))) a.reverse := by
  have key : ∀ (i : Nat) (acc : List Int), i ≤ a.length → acc.length + i = a.length → acc = (a.drop i).reverse → Ev (fun k => L k a acc ((i : Int) - 1)) a.reverse := by
    intro i
    induction i with
    | zero =>
      intro acc hi hl he
      rw [he, List.drop_zero]
      exact Ev.step (fun k => h0 k _ _ _) (Ev.neg (by omega) (Ev.now _))
    | succ i ih =>
      intro acc hi hl he
      have e : ((i + 1 : Nat) : Int) - 1 = (i : Int) := by omega
      have hw : wrap64 ((i : Int) - 1) = (i : Int) - 1 := w64 (by omega) (by omega)
      rw [e]
      refine Ev.step (fun k => h0 k _ _ _) (Ev.pos (by omega) (Ev.pos (by omega) (Ev.pos (by omega) (Ev.pos (by omega) ?_))))
      rw [hw]
      refine ih (acc ++ [rd a (i : Int)]) (by omega) (by simp; omega) ?_
      rw [he, List.drop_eq_getElem_cons (show i < a.length by omega), List.reverse_cons, rd_el (by omega)]
  have hw : wrap64 ((a.length : Int) - 1) = (a.length : Int) - 1 := w64 (by omega) (by omega)
  rw [hw]
  exact key a.length [] (by omega) (by simp) (by simp)
end

/-! ### bounds -/
theorem in_f (a b c : Int) : impl_in.f a b c = spec_l1In.f a b c := rfl
theorem l1In_f (a b c : Int) : spec_l1In.f a b c = some (decide (b ≤ a ∧ a ≤ c)) := by
  unfold spec_l1In.f
  by_cases h : b ≤ a
  · rw [if_pos h]; simp [h]
  · rw [if_neg h]; simp [h]

/-! ### lists of numbers within bounds -/
theorem drop_rd {xs : List Int} {i : Nat} {y : Int} {r : List Int} (h : xs.drop i = y :: r) : rd xs (i : Int) = y := by
  have := congrArg (·[0]?) h
  rw [rd_q]
  simp at this
  rw [this]; rfl
theorem drop_tail {xs : List Int} {i : Nat} {y : Int} {r : List Int} (h : xs.drop i = y :: r) : xs.drop (i + 1) = r := by
  rw [← List.tail_drop, h]; rfl
theorem l1All_ev (lo hi : Int) (w : List Int) (hw : (w.length : Int) ≤ 1048576) : Ev (fun k => spec_l1All.f k w lo hi) (w.all fun x => decide (lo ≤ x ∧ x ≤ hi)) := by
  have key : ∀ (r : List Int) (i : Nat), w.drop i = r → i + r.length = w.length → Ev (fun k => spec_l1All.l0 k lo hi w (w.length : Int) (i : Int)) (r.all fun x => decide (lo ≤ x ∧ x ≤ hi)) := by
    intro r
    induction r with
    | nil =>
      intro i h hl
      simp only [List.length_nil] at hl
      rw [List.all_nil]
      exact Ev.step (fun k => by rw [spec_l1All.l0]) (Ev.neg (by omega) (Ev.now _))
    | cons y r ih =>
      intro i h hl
      simp only [List.length_cons] at hl
      have hw1 : wrap64 ((i : Int) + 1) = ((i + 1 : Nat) : Int) := by rw [w64 (by omega) (by omega)]; omega
      refine Ev.step (fun k => by rw [spec_l1All.l0]) (Ev.pos (by omega) (Ev.pos (by omega) (Ev.pos (by omega) ?_)))
      rw [drop_rd h, hw1, List.all_cons]
      refine Ev.pure_bind (l1In_f y lo hi) ?_
      cases decide (lo ≤ y ∧ y ≤ hi) with
      | true => exact Ev.pos rfl (ih (i + 1) (drop_tail h) (by omega))
      | false => exact Ev.neg (by simp) (Ev.now _)
  exact key w 0 rfl (by simp)
theorem areIn_ok (lo hi : Int) (w : List Int) : impl_areIn.ok lo hi w = w.all fun x => decide (lo ≤ x ∧ x ≤ hi) := by
  unfold impl_areIn.ok
  induction w with
  | nil => rfl
  | cons y r ih =>
    rw [List.any_cons, List.all_cons, Bool.not_or, ih, Bool.not_not]

/-! ### slices.Reverse -/
theorem reverse_ev (l : List Int) (hb : (l.length : Int) ≤ 1048576) : Ev (fun k => slices_Reverse_int_int.f k l) l.reverse := by
  have key : ∀ (d t : Nat) (x : List Int), l.length ≤ 2 * t + d → t ≤ l.length → x.length = l.length → (∀ p < l.length, rd x (p : Int) = if p < t ∨ l.length - t ≤ p then rd l ((l.length - 1 - p : Nat) : Int) else rd l (p : Int)) →
      Ev (fun k => slices_Reverse_int_int.l0 k x (t : Int) ((l.length : Int) - 1 - t)) l.reverse := by
    intro d
    induction d with
    | zero =>
      intro t x h1 h2 h3 h4
      have he : x = l.reverse := by
        apply rd_ext (by simp [h3])
        intro p hp
        rw [h4 p (by omega), rd_rev (by omega), if_pos (by omega)]
      rw [← he]
      exact Ev.step (fun k => by rw [slices_Reverse_int_int.l0]) (Ev.neg (by omega) (Ev.now _))
    | succ d ih =>
      intro t x h1 h2 h3 h4
      by_cases c : (t : Int) < (l.length : Int) - 1 - t
      · have hw1 : wrap64 ((t : Int) + 1) = ((t + 1 : Nat) : Int) := by rw [w64 (by omega) (by omega)]; omega
        have hw2 : wrap64 ((l.length : Int) - 1 - t - 1) = (l.length : Int) - 1 - ((t + 1 : Nat) : Int) := by rw [w64 (by omega) (by omega)]; omega
        have hj : (l.length : Int) - 1 - t = ((l.length - 1 - t : Nat) : Int) := by omega
        refine Ev.step (fun k => by rw [slices_Reverse_int_int.l0]) (Ev.pos c (Ev.pos (by omega) (Ev.pos (by omega) (Ev.pos (by omega) (Ev.pos (by omega) ?_)))))
        rw [hw1, hw2, hj, Int.toNat_natCast, Int.toNat_natCast]
        refine ih (t + 1) _ (by omega) (by omega) (by simp [h3]) (fun p hp => ?_)
        rw [rd_set _ _ _ _ (by simp [h3]; omega), rd_set _ _ _ _ (by omega), h4 p hp, h4 t (by omega), h4 (l.length - 1 - t) (by omega)]
        by_cases e1 : p = l.length - 1 - t
        · rw [if_pos e1, if_neg (by omega), if_pos (by omega), e1]; congr 1; omega
        · rw [if_neg e1]
          by_cases e2 : p = t
          · rw [if_pos e2, if_neg (by omega), if_pos (by omega), e2]
          · rw [if_neg e2]
            by_cases e3 : p < t ∨ l.length - t ≤ p
            · rw [if_pos e3, if_pos (by omega)]
            · rw [if_neg e3, if_neg (by omega)]
      · have he : x = l.reverse := by
          apply rd_ext (by simp [h3])
          intro p hp
          rw [h4 p (by omega), rd_rev (by omega)]
          by_cases e : p < t ∨ l.length - t ≤ p
          · rw [if_pos e]
          · rw [if_neg e]; congr 1; omega
        rw [← he]
        exact Ev.step (fun k => by rw [slices_Reverse_int_int.l0]) (Ev.neg c (Ev.now _))
  unfold slices_Reverse_int_int.f
  have hw : wrap64 ((l.length : Int) - 1) = (l.length : Int) - 1 := w64 (by omega) (by omega)
  rw [hw]
  have := key l.length 0 l (by omega) (by omega) rfl (fun p hp => by rw [if_neg (by omega)])
  simpa using this

/-! ### reversed -/
theorem reversed_ev (l : List Int) (hb : (l.length : Int) ≤ 1048576) : Ev (fun k => impl_reversed.f k l) l.reverse :=
  Ev.pure_bind (show slices_Clone_int_int.f l = some l from if_pos (by omega)) (Ev.bind (reverse_ev l hb) (Ev.now _))

/-! ### the cursor's draws: always there, and within their bounds -/
theorem u64_wraps (n : Int) (h0 : 0 ≤ n) (h1 : n < 2 ^ 64) : IntKind.u64.wrap n = n := by simp [IntKind.wrap, IntKind.bits, IntKind.signed]; omega
theorem u64_range (n : Int) : 0 ≤ IntKind.u64.wrap n ∧ IntKind.u64.wrap n < 18446744073709551616 := by
  simp [IntKind.wrap, IntKind.bits, IntKind.signed]
  omega
theorem and255 (x : Int) (h0 : 0 ≤ x) (h1 : x < 18446744073709551616) : Go.bits .and .u64 x 255 = x % 256 :=
  Go.bits_mask .u64 64 (by decide) u64_wraps 8 (by decide) x h0 (by simpa using h1)
theorem top255 (n : Int) : 0 ≤ wrap64 (Go.bits .and .u64 (IntKind.u64.wrap n / 1099511627776) 255) ∧ wrap64 (Go.bits .and .u64 (IntKind.u64.wrap n / 1099511627776) 255) ≤ 255 := by
  have h := u64_range n
  generalize IntKind.u64.wrap n = m at h
  rw [and255 _ (by omega) (by omega), w64 (by omega) (by omega)]
  omega
def Bytes (l : List Int) : Prop := ∀ i : Nat, 0 ≤ rd l (i : Int) ∧ rd l (i : Int) ≤ 255
theorem Bytes.of {l : List Int} (h : ∀ x ∈ l, (Lit.int .u8 x).wf = true) : Bytes l := by
  intro i
  have : ∀ x ∈ l, 0 ≤ x ∧ x ≤ 255 := fun x hx => by
    have := h x hx
    simp [Lit.wf] at this
    exact ⟨this.1, this.2⟩
  by_cases c : i < l.length
  · have e : rd l (i : Int) = l[i] := by simp [rd, List.getD_eq_getElem?_getD, c]
    rw [e]; exact this _ (List.getElem_mem c)
  · have e : rd l (i : Int) = 0 := by simp [rd, List.getD_eq_getElem?_getD, c]
    rw [e]; omega
theorem next_ev (l : List Int) (hl : Bytes l) (p s : Int) (hp : 0 ≤ p ∧ p ≤ 4611686018427387904) : ∃ v t, spec_l1Cur_next.f l p s = some (v, p + 1, t) ∧ 0 ≤ v ∧ v ≤ 255 := by
  have hw : wrap64 (p + 1) = p + 1 := w64 (by omega) (by omega)
  unfold spec_l1Cur_next.f
  rw [hw]
  by_cases c : p < (l.length : Int)
  · rw [if_pos c, if_pos hp.1, if_pos (by omega)]
    have hb := hl p.toNat
    rw [show ((p.toNat : Nat) : Int) = p by omega] at hb
    refine ⟨_, _, rfl, ?_⟩
    rw [w64 (by omega) (by omega)]
    exact hb
  · rw [if_neg c, if_neg (by omega)]
    exact ⟨_, _, rfl, top255 _⟩
/-- What a draw below n gives. -/
structure Drew (p n : Int) (v q : Int) : Prop where
  lo : 0 ≤ v
  hi : 1 < n → v < n
  one : n ≤ 1 → v = 0
  from_ : p ≤ q
  to_ : q ≤ p + 2
theorem pick_ev (l : List Int) (hl : Bytes l) (p s n : Int) (hp : 0 ≤ p ∧ p ≤ 4611686018427387000) : ∃ v q t, spec_l1Cur_pick.f l p s n = some (v, q, t) ∧ Drew p n v q := by
  unfold spec_l1Cur_pick.f
  by_cases c : n ≤ 1
  · rw [if_pos c]
    exact ⟨0, p, s, rfl, ⟨by omega, by omega, fun _ => rfl, by omega, by omega⟩⟩
  · rw [if_neg c]
    obtain ⟨v, t, e, h0, h1⟩ := next_ev l hl p s (by omega)
    rw [e, Option.bind_some]
    by_cases c2 : n > 200
    · rw [if_pos c2]
      obtain ⟨v2, t2, e2, g0, g1⟩ := next_ev l hl (p + 1) t (by omega)
      rw [e2, Option.bind_some, if_neg (by omega)]
      refine ⟨_, _, _, rfl, ?_⟩
      rw [w64 (n := v * 256) (by omega) (by omega), w64 (by omega) (by omega)]
      exact ⟨Int.tmod_nonneg _ (by omega), fun _ => Int.tmod_lt_of_pos _ (by omega), fun h => absurd h c, by dsimp only; omega, by dsimp only; omega⟩
    · rw [if_neg c2, if_neg (by omega)]
      exact ⟨_, _, _, rfl, ⟨Int.tmod_nonneg _ h0, fun _ => Int.tmod_lt_of_pos _ (by omega), fun h => absurd h c, by dsimp only; omega, by dsimp only; omega⟩⟩
theorem among_ev (l : List Int) (hl : Bytes l) (p s : Int) (hp : 0 ≤ p ∧ p ≤ 4611686018427387000) (xs : List Int) (h : 0 < xs.length) : ∃ v q t, spec_l1Cur_among.f l p s xs = some (v, q, t) ∧ v ∈ xs ∧ p ≤ q ∧ q ≤ p + 2 := by
  obtain ⟨v, q, t, e, d⟩ := pick_ev l hl p s xs.length hp
  have hlt : v < (xs.length : Int) := by
    by_cases c : 1 < (xs.length : Int)
    · exact d.hi c
    · have := d.one (by omega); omega
  have h0 := d.lo
  unfold spec_l1Cur_among.f
  rw [e, Option.bind_some, if_pos h0, if_pos hlt]
  refine ⟨_, _, _, rfl, ?_, d.from_, d.to_⟩
  have e : rd xs v = xs[v.toNat]'(by omega) := by simp [rd, List.getD_eq_getElem?_getD, show v.toNat < xs.length by omega]
  rw [e]
  exact List.getElem_mem _
theorem one_ev (l : List Int) (hl : Bytes l) (p s n : Int) (hp : 0 ≤ p ∧ p ≤ 4611686018427387000) : ∃ b q t, spec_l1Cur_one.f l p s n = some (b, q, t) ∧ p ≤ q ∧ q ≤ p + 2 := by
  obtain ⟨v, q, t, e, d⟩ := pick_ev l hl p s n hp
  unfold spec_l1Cur_one.f
  rw [e, Option.bind_some]
  exact ⟨_, _, _, rfl, d.from_, d.to_⟩
theorem big_f (a b : List Int) : laws_big.f a b = some (decide (1048576 < (a.length : Int) ∨ 1048576 < (a.length : Int) + (b.length : Int))) := by
  unfold laws_big.f
  by_cases c : (a.length : Int) > 1048576
  · rw [if_pos c, decide_eq_true (.inl c)]
  · rw [if_neg c, w64 (by omega) (by omega)]
    congr 1
    apply decide_eq_decide.2
    omega

/-! ### added backwards: what is carried, and the digits -/
def cr (b : Int) (z : Nat → Int) : Nat → Int
  | 0 => 0
  | j + 1 => (z j + cr b z j) / b
def dg (b : Int) (z : Nat → Int) (j : Nat) : Int := (z j + cr b z j) % b
theorem cr_bound (b : Int) (z : Nat → Int) (hb : 2 ≤ b) (n : Nat) (hz : ∀ j < n, 0 ≤ z j ∧ z j ≤ 2 * (b - 1)) : ∀ j ≤ n, 0 ≤ cr b z j ∧ cr b z j ≤ 1 := by
  intro j
  induction j with
  | zero => intro _; rw [cr]; omega
  | succ j ih =>
    intro h
    have h1 := ih (by omega)
    have h2 := hz j (by omega)
    rw [cr]
    refine ⟨Int.ediv_nonneg (by omega) (by omega), ?_⟩
    have : (z j + cr b z j) / b < 2 := Int.ediv_lt_of_lt_mul (by omega) (by omega)
    omega
theorem dg_bound (b : Int) (z : Nat → Int) (hb : 2 ≤ b) (j : Nat) : 0 ≤ dg b z j ∧ dg b z j < b := ⟨Int.emod_nonneg _ (by omega), Int.emod_lt_of_pos _ (by omega)⟩
theorem dg_cr (b : Int) (z : Nat → Int) (j : Nat) : dg b z j + b * cr b z (j + 1) = z j + cr b z j := by
  rw [dg, cr]; exact Int.emod_add_mul_ediv _ _
theorem cr_congr (b : Int) (z y : Nat → Int) (n : Nat) (h : ∀ j < n, z j = y j) : ∀ j ≤ n, cr b z j = cr b y j := by
  intro j
  induction j with
  | zero => intro _; rfl
  | succ j ih => intro hj; rw [cr, cr, ih (by omega), h j (by omega)]
def sumS (b : Int) (z : Nat → Int) (n : Nat) : List Int :=
  if cr b z n > 0 then cr b z n :: ((List.range n).map (dg b z)).reverse else ((List.range n).map (dg b z)).reverse
def carS (b : Int) (z : Nat → Int) (n : Nat) : List Int := (List.range n).map (fun j => cr b z (j + 1))
def zD (D : List Int) (j : Nat) : Int := rd D (j : Int) + rd D ((D.length - 1 - j : Nat) : Int)
/-- Digits that can be added backwards. -/
structure Good (D : List Int) (b : Int) : Prop where
  b2 : 2 ≤ b
  b16 : b ≤ 16
  pos : 0 < D.length
  len : D.length ≤ 40
  dig : ∀ p < D.length, 0 ≤ rd D (p : Int) ∧ rd D (p : Int) ≤ b - 1
  front : rd D 0 > 0 ∨ D.length = 1
theorem Good.z {D : List Int} {b : Int} (G : Good D b) : ∀ j < D.length, 0 ≤ zD D j ∧ zD D j ≤ 2 * (b - 1) := by
  intro j h
  have h1 := G.dig j h
  have h2 := G.dig (D.length - 1 - j) (by omega)
  unfold zD
  omega
theorem tmod_eq {a b : Int} (h : 0 ≤ a) : Int.tmod a b = a % b := Int.tmod_eq_emod_of_nonneg h
theorem tdiv_eq {a b : Int} (h : 0 ≤ a) : Int.tdiv a b = a / b := Int.tdiv_eq_ediv_of_nonneg h
theorem Good.step {D : List Int} {b : Int} (G : Good D b) (j : Nat) (hj : j < D.length) (u v : Int) (hu : u + v = zD D j) (h0 : 0 ≤ u ∧ u ≤ 16) (h1 : 0 ≤ v ∧ v ≤ 16) :
    Int.tmod (wrap64 (wrap64 (u + v) + cr b (zD D) j)) b = dg b (zD D) j ∧ wrap64 (Int.tdiv (wrap64 (wrap64 (u + v) + cr b (zD D) j)) b) = cr b (zD D) (j + 1) := by
  have hc := cr_bound b (zD D) G.b2 D.length G.z
  have h2 := hc j (by omega)
  have h3 := hc (j + 1) (by omega)
  have h4 := G.z j hj
  have hb := G.b16
  rw [w64 (n := u + v) (by omega) (by omega), hu, w64 (n := zD D j + cr b (zD D) j) (by omega) (by omega), tmod_eq (by omega), tdiv_eq (by omega)]
  refine ⟨rfl, ?_⟩
  show wrap64 (cr b (zD D) (j + 1)) = _
  exact w64 (by omega) (by omega)
theorem summed_ev (D : List Int) (b : Int) (G : Good D b) : Ev (fun k => impl_summed.f k D b) (sumS b (zD D) D.length, carS b (zD D) D.length) := by
  have hlen := G.len
  have hb2 := G.b2
  have hc := cr_bound b (zD D) G.b2 D.length G.z
  have key : ∀ (d j : Nat), j + d = D.length → Ev (fun k => impl_summed.l0 k D b ((List.range j).map (dg b (zD D))) (carS b (zD D) j) (cr b (zD D) j) (D.length : Int) (j : Int)) (sumS b (zD D) D.length, carS b (zD D) D.length) := by
    intro d
    induction d with
    | zero =>
      intro j hj
      obtain rfl : j = D.length := by omega
      refine Ev.step (fun k => by rw [impl_summed.l0]) (Ev.neg (by omega) ?_)
      by_cases c : cr b (zD D) D.length > 0
      · rw [show sumS b (zD D) D.length = _ from if_pos c]
        refine Ev.pos c (Ev.pos (by simp; omega) (Ev.bind (reversed_ev _ (by simp; omega)) (Ev.some ?_)))
        rw [List.reverse_append]; rfl
      · rw [show sumS b (zD D) D.length = _ from if_neg c]
        exact Ev.neg c (Ev.bind (reversed_ev _ (by simp; omega)) (Ev.now _))
    | succ d ih =>
      intro j hj
      have hw : wrap64 ((j : Int) + 1) = ((j + 1 : Nat) : Int) := by rw [w64 (by omega) (by omega)]; omega
      have hw2 : wrap64 (wrap64 ((D.length : Int) - 1) - (j : Int)) = ((D.length - 1 - j : Nat) : Int) := by rw [w64 (n := (D.length : Int) - 1) (by omega) (by omega), w64 (by omega) (by omega)]; omega
      have g1 := G.dig j (by omega)
      have g2 := G.dig (D.length - 1 - j) (by omega)
      have hb16 := G.b16
      obtain ⟨s1, s2⟩ := G.step j (by omega) (rd D ((D.length - 1 - j : Nat) : Int)) (rd D (j : Int)) (by unfold zD; omega) (by omega) (by omega)
      refine Ev.step (fun k => by rw [impl_summed.l0]) (Ev.pos (by omega) ?_)
      rw [hw2, s1, s2, hw, ← tab_succ]
      refine Ev.pos (by omega) (Ev.pos (by omega) (Ev.pos (by omega) (Ev.pos (by omega) (Ev.neg (by omega) (Ev.pos (by simp; omega) (Ev.pos (by simp [carS]; omega) ?_))))))
      have := ih (j + 1) (by omega)
      rw [show carS b (zD D) (j + 1) = carS b (zD D) j ++ [cr b (zD D) (j + 1)] from tab_succ _ _] at this
      exact this
  exact key D.length 0 (by omega)
theorem rvAdd_ev (D : List Int) (b : Int) (G : Good D b) : Ev (fun k => spec_rvAdd.f k D b) (sumS b (zD D) D.length, carS b (zD D) D.length) := by
  have hlen := G.len
  have hb2 := G.b2
  have hc := cr_bound b (zD D) G.b2 D.length G.z
  have key : ∀ (d j : Nat), j + d = D.length → Ev (fun k => spec_rvAdd.l0 k D b (D.length : Int) ((List.range j).map (dg b (zD D))).reverse (carS b (zD D) j) (cr b (zD D) j) ((D.length : Int) - 1 - j)) (sumS b (zD D) D.length, carS b (zD D) D.length) := by
    intro d
    induction d with
    | zero =>
      intro j hj
      obtain rfl : j = D.length := by omega
      refine Ev.step (fun k => by rw [spec_rvAdd.l0]) (Ev.neg (by omega) ?_)
      by_cases c : cr b (zD D) D.length > 0
      · rw [show sumS b (zD D) D.length = _ from if_pos c]
        exact Ev.pos c (Ev.pure_bind rfl (Ev.pos (by simp; omega) (Ev.now _)))
      · rw [show sumS b (zD D) D.length = _ from if_neg c]
        exact Ev.neg c (Ev.now _)
    | succ d ih =>
      intro j hj
      have hi : (D.length : Int) - 1 - (j : Int) = ((D.length - 1 - j : Nat) : Int) := by omega
      have hw : wrap64 ((D.length : Int) - 1 - (j : Int) - 1) = (D.length : Int) - 1 - ((j + 1 : Nat) : Int) := by rw [w64 (by omega) (by omega)]; omega
      have hw2 : wrap64 (wrap64 ((D.length : Int) - 1) - ((D.length : Int) - 1 - (j : Int))) = (j : Int) := by rw [w64 (n := (D.length : Int) - 1) (by omega) (by omega), w64 (by omega) (by omega)]; omega
      have g1 := G.dig j (by omega)
      have g2 := G.dig (D.length - 1 - j) (by omega)
      have hb16 := G.b16
      obtain ⟨s1, s2⟩ := G.step j (by omega) (rd D ((D.length - 1 - j : Nat) : Int)) (rd D (j : Int)) (by unfold zD; omega) (by omega) (by omega)
      refine Ev.step (fun k => by rw [spec_rvAdd.l0]) (Ev.pos (by omega) ?_)
      rw [hw2, hw, hi, s1, s2]
      refine Ev.pos (by omega) (Ev.pos (by omega) (Ev.pos (by omega) (Ev.pos (by omega) (Ev.neg (by omega) (Ev.pos (by simp [carS]; omega) (Ev.pure_bind rfl (Ev.pos (by simp; omega) ?_)))))))
      have := ih (j + 1) (by omega)
      rw [show carS b (zD D) (j + 1) = carS b (zD D) j ++ [cr b (zD D) (j + 1)] from tab_succ _ _, tab_succ, List.reverse_append] at this
      exact this
  have hw : wrap64 ((D.length : Int) - 1) = (D.length : Int) - 1 := w64 (by omega) (by omega)
  unfold spec_rvAdd.f
  rw [hw]
  have := key D.length 0 (by omega)
  rw [show (D.length : Int) - 1 - ((0 : Nat) : Int) = (D.length : Int) - 1 by omega] at this
  exact this
/-! #### which digits are good -/
def goodB (D : List Int) (b : Int) : Bool := decide (2 ≤ b ∧ b ≤ 16) && (decide (1 ≤ (D.length : Int) ∧ (D.length : Int) ≤ 40) && ((D.all fun x => decide (0 ≤ x ∧ x ≤ b - 1)) && (decide (rd D 0 > 0) || ((D.length : Int) == 1))))
theorem goodB_iff (D : List Int) (b : Int) : goodB D b = true ↔ Good D b := by
  unfold goodB
  simp only [Bool.and_eq_true, Bool.or_eq_true, decide_eq_true_iff, List.all_eq_true, beq_iff_eq]
  constructor
  · rintro ⟨h1, h2, h3, h4⟩
    exact ⟨h1.1, h1.2, by omega, by omega, fun p hp => h3 _ (rd_mem hp), h4.imp id (by omega)⟩
  · intro G
    have := G.pos
    have := G.len
    refine ⟨⟨G.b2, G.b16⟩, by omega, fun x hx => ?_, G.front.imp id (by omega)⟩
    obtain ⟨p, hp, e⟩ := List.getElem_of_mem hx
    rw [← e, ← rd_el hp]
    exact G.dig p hp
theorem isBase_f (b : Int) : impl_isBase.f b = some (decide (2 ≤ b ∧ b ≤ 16)) := by unfold impl_isBase.f; rw [in_f, l1In_f]; rfl
theorem dgBase_f (b : Int) : spec_dgBase.f b = some (decide (2 ≤ b ∧ b ≤ 16)) := by unfold spec_dgBase.f; rw [l1In_f]; rfl
theorem isLong_f (D : List Int) (b : Int) : impl_isLong.f D b = some (goodB D b) := by
  unfold impl_isLong.f goodB
  rw [isBase_f, Option.bind_some]
  by_cases c1 : 2 ≤ b ∧ b ≤ 16
  · rw [decide_eq_true c1, if_pos rfl, Bool.true_and]
    unfold impl_areDigits.f impl_areIn.f
    rw [w64 (by omega) (by omega), areIn_ok, Option.bind_some]
    by_cases c2 : 1 ≤ (D.length : Int) ∧ (D.length : Int) ≤ 40
    · rw [decide_eq_true c2, Bool.true_and, Bool.true_and]
      cases (D.all fun x => decide (0 ≤ x ∧ x ≤ b - 1)) with
      | false => rfl
      | true =>
        rw [if_pos rfl, if_pos (by omega), Bool.true_and]
        by_cases c3 : rd D 0 > 0
        · rw [if_pos c3, Option.bind_some, if_pos rfl, decide_eq_true c3, decide_eq_true c2.2]; rfl
        · rw [if_neg c3, Option.bind_some, decide_eq_false c3, Bool.false_or]
          cases ((D.length : Int) == 1) with
          | false => rfl
          | true => rw [if_pos rfl, decide_eq_true c2.2]
    · rw [decide_eq_false c2, Bool.false_and, Bool.false_and]; rfl
  · rw [decide_eq_false c1, Bool.false_and]; rfl
theorem rvGood_ev (D : List Int) (b : Int) : Ev (fun k => spec_rvGood.f k D b) (goodB D b) := by
  unfold goodB
  refine Ev.pure_bind (dgBase_f b) ?_
  by_cases c1 : 2 ≤ b ∧ b ≤ 16
  · rw [decide_eq_true c1, Bool.true_and]
    refine Ev.pos rfl (Ev.pure_bind (l1In_f _ _ _) ?_)
    by_cases c2 : 1 ≤ (D.length : Int) ∧ (D.length : Int) ≤ 40
    · rw [decide_eq_true c2, Bool.true_and]
      rw [w64 (by omega) (by omega)]
      refine Ev.pos rfl (Ev.bind (l1All_ev 0 (b - 1) D (by omega)) ?_)
      cases (D.all fun x => decide (0 ≤ x ∧ x ≤ b - 1)) with
      | false => exact Ev.neg (by simp) (Ev.now _)
      | true =>
        refine Ev.pos rfl (Ev.pos (by omega) ?_)
        rw [Bool.true_and]
        by_cases c3 : rd D 0 > 0
        · rw [decide_eq_true c3]; exact Ev.pos c3 (Ev.now _)
        · rw [decide_eq_false c3]; exact Ev.neg c3 (Ev.now _)
    · rw [decide_eq_false c2, Bool.false_and]
      exact Ev.neg (by simp) (Ev.now _)
  · rw [decide_eq_false c1, Bool.false_and]
    exact Ev.neg (by simp) (Ev.now _)

/-! ### the difference with the same backwards -/
def lexLt : List Int → List Int → Bool
  | x :: s, y :: t => if x = y then lexLt s t else decide (x < y)
  | _, _ => false
theorem lexLt_self : ∀ (a : List Int), lexLt a a = false
  | [] => rfl
  | x :: s => by rw [lexLt, if_pos rfl, lexLt_self s]
theorem lexLt_asymm : ∀ (a b : List Int), lexLt a b = true → lexLt b a = false
  | x :: s, y :: t, h => by
    rw [lexLt] at h ⊢
    by_cases c : x = y
    · rw [if_pos c] at h; rw [if_pos c.symm]; exact lexLt_asymm s t h
    · rw [if_neg c] at h; rw [if_neg (fun e => c e.symm)]
      have := of_decide_eq_true h
      exact decide_eq_false (by omega)
  | [], _, h => by cases h
  | _ :: _, [], h => by cases h
theorem drop_cons {xs : List Int} {i : Nat} (h : i < xs.length) : xs.drop i = rd xs (i : Int) :: xs.drop (i + 1) := by
  rw [List.drop_eq_getElem_cons h, rd_el h]
theorem rvLess_ev (a b : List Int) (hl : a.length = b.length) (hb : (a.length : Int) ≤ 1048576) : Ev (fun k => spec_rvLess.f k a b) (lexLt a b) := by
  have key : ∀ (d i : Nat), i + d = a.length → Ev (fun k => spec_rvLess.l0 k a b (a.length : Int) (i : Int)) (lexLt (a.drop i) (b.drop i)) := by
    intro d
    induction d with
    | zero =>
      intro i hi
      rw [List.drop_eq_nil_of_le (by omega : a.length ≤ i)]
      show Ev _ false
      exact Ev.step (fun k => by rw [spec_rvLess.l0]) (Ev.neg (by omega) (Ev.now _))
    | succ d ih =>
      intro i hi
      have hw : wrap64 ((i : Int) + 1) = ((i + 1 : Nat) : Int) := by rw [w64 (by omega) (by omega)]; omega
      rw [drop_cons (show i < a.length by omega), drop_cons (show i < b.length by omega), lexLt]
      refine Ev.step (fun k => by rw [spec_rvLess.l0]) (Ev.pos (by omega) (Ev.pos (by omega) (Ev.pos (by omega) (Ev.pos (by omega) ?_))))
      by_cases c : rd a (i : Int) = rd b (i : Int)
      · rw [if_pos c, hw]
        exact Ev.pos c (ih (i + 1) (by omega))
      · rw [if_neg c]
        exact Ev.neg c (Ev.now _)
  exact key a.length 0 (by omega)
theorem cmp_f (x y : Int) : cmp_Compare_int.f x y = some (if x < y then -1 else if x > y then 1 else 0) := by
  unfold cmp_Compare_int.f cmp_isNaN_int.f
  simp only [bne_self_eq_false, Option.bind_some, Bool.false_eq_true, if_false]
  by_cases c : x < y
  · rw [if_pos c, if_pos c]
  · rw [if_neg c, if_neg c]
    by_cases d : x > y
    · rw [if_pos d, if_pos d]
    · rw [if_neg d, if_neg d]
theorem compare_ev (a b : List Int) (hl : a.length = b.length) (hb : (a.length : Int) ≤ 1048576) : ∃ r : Int, Ev (fun k => slices_Compare_int_int.f k a b) r ∧ decide (r < 0) = lexLt a b := by
  have key : ∀ (d i : Nat), i + d = a.length → ∃ r : Int, Ev (fun k => slices_Compare_int_int.l0 k a b a (a.length : Int) (i : Int)) r ∧ decide (r < 0) = lexLt (a.drop i) (b.drop i) := by
    intro d
    induction d with
    | zero =>
      intro i hi
      refine ⟨0, Ev.step (fun k => by rw [slices_Compare_int_int.l0]) (Ev.neg (by omega) (Ev.neg (by omega) (Ev.now _))), ?_⟩
      rw [List.drop_eq_nil_of_le (by omega : a.length ≤ i)]
      rfl
    | succ d ih =>
      intro i hi
      have hw : wrap64 ((i : Int) + 1) = ((i + 1 : Nat) : Int) := by rw [w64 (by omega) (by omega)]; omega
      rw [drop_cons (show i < a.length by omega), drop_cons (show i < b.length by omega), lexLt]
      have hf := cmp_f (rd a (i : Int)) (rd b (i : Int))
      by_cases c : rd a (i : Int) = rd b (i : Int)
      · rw [if_pos c]
        rw [if_neg (by omega), if_neg (by omega)] at hf
        obtain ⟨r, e, hr⟩ := ih (i + 1) (by omega)
        refine ⟨r, Ev.step (fun k => by rw [slices_Compare_int_int.l0]) (Ev.pos (by omega) (Ev.pos (by omega) (Ev.pos (by omega) (Ev.neg (by omega) (Ev.pos (by omega) (Ev.pure_bind hf (Ev.pos rfl ?_))))))), hr⟩
        rw [hw]; exact e
      · rw [if_neg c]
        by_cases c2 : rd a (i : Int) < rd b (i : Int)
        · rw [if_pos c2] at hf
          refine ⟨-1, Ev.step (fun k => by rw [slices_Compare_int_int.l0]) ?_, ?_⟩
          · refine Ev.pos (by omega) (Ev.pos (by omega) (Ev.pos (by omega) (Ev.neg (by omega) (Ev.pos (by omega) (Ev.pure_bind hf ?_)))))
            exact Ev.neg (show ¬ ((-1 : Int) = 0) by decide) (Ev.now _)
          rw [decide_eq_true c2]; rfl
        · rw [if_neg c2, if_pos (by omega)] at hf
          refine ⟨1, Ev.step (fun k => by rw [slices_Compare_int_int.l0]) ?_, ?_⟩
          · refine Ev.pos (by omega) (Ev.pos (by omega) (Ev.pos (by omega) (Ev.neg (by omega) (Ev.pos (by omega) (Ev.pure_bind hf ?_)))))
            exact Ev.neg (show ¬ ((1 : Int) = 0) by decide) (Ev.now _)
          rw [decide_eq_false c2]; rfl
  obtain ⟨r, e, hr⟩ := key a.length 0 (by omega)
  exact ⟨r, e, hr⟩
/-- What is borrowed from the place that is so far from the right. -/
def bor (a b : List Int) : Nat → Int
  | 0 => 0
  | j + 1 => if rd a ((a.length - 1 - j : Nat) : Int) - rd b ((a.length - 1 - j : Nat) : Int) - bor a b j < 0 then 1 else 0
def dif (q : Int) (a b : List Int) (j : Nat) : Int := rd a ((a.length - 1 - j : Nat) : Int) - rd b ((a.length - 1 - j : Nat) : Int) - bor a b j + q * bor a b (j + 1)
theorem bor_01 (a b : List Int) : ∀ j, 0 ≤ bor a b j ∧ bor a b j ≤ 1
  | 0 => by rw [bor]; omega
  | j + 1 => by rw [bor]; split <;> omega
theorem bor_lex (a b : List Int) (hl : a.length = b.length) : ∀ j ≤ a.length, (bor a b j = 1 ↔ lexLt (a.drop (a.length - j)) (b.drop (a.length - j)) = true) := by
  intro j
  induction j with
  | zero =>
    intro _
    rw [Nat.sub_zero, List.drop_eq_nil_of_le (Nat.le_refl _), bor]
    simp [lexLt]
  | succ j ih =>
    intro h
    have h1 := ih (by omega)
    have h2 := bor_01 a b j
    have e : a.length - j = a.length - (j + 1) + 1 := by omega
    have e2 : a.length - 1 - j = a.length - (j + 1) := by omega
    rw [drop_cons (show a.length - (j + 1) < a.length by omega), drop_cons (show a.length - (j + 1) < b.length by omega), lexLt, bor, ← e, e2]
    generalize rd a ((a.length - (j + 1) : Nat) : Int) = u
    generalize rd b ((a.length - (j + 1) : Nat) : Int) = v
    by_cases c : u = v
    · rw [if_pos c, ← h1]
      by_cases d : u - v - bor a b j < 0
      · rw [if_pos d]; omega
      · rw [if_neg d]; omega
    · rw [if_neg c, decide_eq_true_iff]
      by_cases d : u - v - bor a b j < 0
      · rw [if_pos d]; omega
      · rw [if_neg d]; omega
def stripZ : List Int → List Int
  | [] => []
  | [x] => [x]
  | x :: y :: t => if x = 0 then stripZ (y :: t) else x :: y :: t
theorem stripI_ev (r : List Int) (hr : (r.length : Int) ≤ 1048576) : Ev (fun k => impl_SubtractReversed.l1 k r) (stripZ r, true) := by
  induction r with
  | nil => exact Ev.step (fun k => by rw [impl_SubtractReversed.l1]) (Ev.neg (by simp) (Ev.pure_bind (show slices_Clone_int_int.f [] = some [] from if_pos (by simp)) (Ev.now _)))
  | cons x t ih =>
    cases t with
    | nil => exact Ev.step (fun k => by rw [impl_SubtractReversed.l1]) (Ev.neg (by simp) (Ev.pure_bind (show slices_Clone_int_int.f [x] = some [x] from if_pos (by simp)) (Ev.now _)))
    | cons y t =>
      have hl : ((x :: y :: t).length : Int) > 1 := by simp only [List.length_cons]; omega
      have hlim : (x :: y :: t).length < 17592186044416 := by omega
      have hcl : slices_Clone_int_int.f (x :: y :: t) = some (x :: y :: t) := if_pos hlim
      have ih := ih (by simp only [List.length_cons] at hr ⊢; omega)
      rw [stripZ]
      refine Ev.step (fun k => by rw [impl_SubtractReversed.l1]) (Ev.pos hl (Ev.pos (by omega) ?_))
      rw [rd_cons0]
      by_cases c : x = 0
      · rw [if_pos c]
        exact Ev.pos c (Ev.pos (by omega) ih)
      · rw [if_neg c]
        exact Ev.neg c (Ev.pure_bind hcl (Ev.now _))
theorem stripS_ev (r : List Int) (hr : (r.length : Int) ≤ 1048576) (hp : 0 < r.length) : Ev (fun k => spec_SubtractReversed.l1 k r 0) (stripZ r, true) := by
  have hw0 : wrap64 ((r.length : Int) - 1) = (r.length : Int) - 1 := w64 (by omega) (by omega)
  have key : ∀ (d i : Nat), i + d + 1 = r.length → Ev (fun k => spec_SubtractReversed.l1 k r (i : Int)) (stripZ (r.drop i), true) := by
    intro d
    induction d with
    | zero =>
      intro i hi
      refine Ev.step (fun k => by rw [spec_SubtractReversed.l1]) ?_
      rw [hw0]
      refine Ev.neg (by omega) (Ev.pos (by omega) (Ev.pos (by omega) (Ev.some ?_)))
      rw [Int.toNat_natCast, drop_cons (by omega), List.drop_eq_nil_of_le (by omega : r.length ≤ i + 1)]
      rfl
    | succ d ih =>
      intro i hi
      have hw : wrap64 ((i : Int) + 1) = ((i + 1 : Nat) : Int) := by rw [w64 (by omega) (by omega)]; omega
      refine Ev.step (fun k => by rw [spec_SubtractReversed.l1]) ?_
      rw [hw0, hw]
      refine Ev.pos (by omega) (Ev.pos (by omega) (Ev.pos (by omega) ?_))
      have e : stripZ (r.drop i) = if rd r (i : Int) = 0 then stripZ (r.drop (i + 1)) else r.drop i := by
        rw [drop_cons (show i < r.length by omega), drop_cons (show i + 1 < r.length by omega), stripZ]
      rw [e]
      by_cases c : rd r (i : Int) = 0
      · rw [if_pos c]; exact Ev.pos c (ih (i + 1) (by omega))
      · rw [if_neg c]
        refine Ev.neg c (Ev.pos (by omega) (Ev.some ?_))
        rw [Int.toNat_natCast]
  exact key (r.length - 1) 0 (by omega)
/-- The digits of the difference, from the first place on. -/
def difS (q : Int) (a b : List Int) : List Int := ((List.range a.length).map (dif q a b)).reverse
theorem rd_difS (q : Int) (a b : List Int) {p : Nat} (h : p < a.length) : rd (difS q a b) (p : Int) = dif q a b (a.length - 1 - p) := by
  unfold difS
  rw [rd_rev (by simpa using h)]
  have : ((List.range a.length).map (dif q a b)).length = a.length := by simp
  rw [this, rd_tab _ (by omega)]
structure Pair2 (q : Int) (a b : List Int) : Prop where
  q2 : 2 ≤ q
  q16 : q ≤ 16
  same : a.length = b.length
  pos : 0 < a.length
  len : a.length ≤ 40
  da : ∀ p < a.length, 0 ≤ rd a (p : Int) ∧ rd a (p : Int) ≤ q - 1
  db : ∀ p < a.length, 0 ≤ rd b (p : Int) ∧ rd b (p : Int) ≤ q - 1
  ge : lexLt a b = false
theorem Pair2.top {q : Int} {a b : List Int} (P : Pair2 q a b) : bor a b a.length = 0 := by
  have h1 := bor_lex a b P.same a.length (Nat.le_refl _)
  have h2 := bor_01 a b a.length
  rw [Nat.sub_self, List.drop_zero, List.drop_zero, P.ge] at h1
  have : bor a b a.length ≠ 1 := fun h => by simpa using h1.1 h
  omega
theorem subI_ev {q : Int} {a b : List Int} (P : Pair2 q a b) : Ev (fun k => impl_SubtractReversed.l0 k q a b (wrap64 ((a.length : Int) - 1))) (stripZ (difS q a b), true) := by
  have hlen := P.len
  have hq := P.q2
  have hq2 := P.q16
  have key : ∀ (d j : Nat) (x : List Int), j + d = a.length → x.length = a.length → (∀ p < a.length, rd x (p : Int) = if a.length - j ≤ p then dif q a b (a.length - 1 - p) else if p + 1 = a.length - j then rd a (p : Int) - bor a b j else rd a (p : Int)) →
      Ev (fun k => impl_SubtractReversed.l0 k q x b ((a.length : Int) - 1 - j)) (stripZ (difS q a b), true) := by
    intro d
    induction d with
    | zero =>
      intro j x hj hx hp
      have e : x = difS q a b := rd_ext (by rw [hx]; simp [difS]) (fun p h => by rw [hp p (by omega), rd_difS _ _ _ (by omega), if_pos (by omega)])
      rw [← e]
      exact Ev.step (fun k => by rw [impl_SubtractReversed.l0]) (Ev.neg (by omega) (stripI_ev x (by omega)))
    | succ d ih =>
      intro j x hj hx hp
      have hi : (a.length : Int) - 1 - (j : Int) = ((a.length - 1 - j : Nat) : Int) := by omega
      have hsame := P.same
      have b0 := bor_01 a b j
      have b1 := bor_01 a b (j + 1)
      have da := P.da (a.length - 1 - j) (by omega)
      have db := P.db (a.length - 1 - j) (by omega)
      have hxi := hp (a.length - 1 - j) (by omega)
      rw [if_neg (by omega), if_pos (by omega)] at hxi
      have hb1 : bor a b (j + 1) = if rd a ((a.length - 1 - j : Nat) : Int) - rd b ((a.length - 1 - j : Nat) : Int) - bor a b j < 0 then 1 else 0 := rfl
      have hdif : dif q a b j = rd a ((a.length - 1 - j : Nat) : Int) - rd b ((a.length - 1 - j : Nat) : Int) - bor a b j + q * bor a b (j + 1) := rfl
      have hw : wrap64 (rd x ((a.length - 1 - j : Nat) : Int) - rd b ((a.length - 1 - j : Nat) : Int)) = rd a ((a.length - 1 - j : Nat) : Int) - rd b ((a.length - 1 - j : Nat) : Int) - bor a b j := by rw [hxi, w64 (by omega) (by omega)]; omega
      refine Ev.step (fun k => by rw [impl_SubtractReversed.l0]) ?_
      rw [hi, hw]
      have hwn : wrap64 (((a.length - 1 - j : Nat) : Int) - 1) = (a.length : Int) - 1 - ((j + 1 : Nat) : Int) := by rw [w64 (by omega) (by omega)]; omega
      rw [hwn]
      refine Ev.pos (by omega) (Ev.pos (by omega) (Ev.pos (by omega) (Ev.pos (by omega) (Ev.pure_bind rfl ?_))))
      rw [Int.toNat_natCast, rd_set _ _ _ _ (by omega), if_pos rfl]
      by_cases c : rd a ((a.length - 1 - j : Nat) : Int) - rd b ((a.length - 1 - j : Nat) : Int) - bor a b j < 0
      · rw [if_pos c] at hb1
        have hj1 : j + 1 ≠ a.length := fun h => by
          have := P.top
          rw [← h, hb1] at this
          omega
        have hn : (a.length : Int) - 1 - ((j + 1 : Nat) : Int) = ((a.length - 1 - (j + 1) : Nat) : Int) := by omega
        rw [hb1, Int.mul_one] at hdif
        rw [w64 (n := rd a ((a.length - 1 - j : Nat) : Int) - rd b ((a.length - 1 - j : Nat) : Int) - bor a b j + q) (by omega) (by omega), ← hdif]
        refine Ev.pos c (Ev.pure_bind rfl (Ev.pos (by omega) (Ev.pos (by omega) ?_)))
        rw [hn, Int.toNat_natCast, List.set_set]
        have hrd : rd (x.set (a.length - 1 - j) (dif q a b j)) ((a.length - 1 - (j + 1) : Nat) : Int) = rd a ((a.length - 1 - (j + 1) : Nat) : Int) := by
          rw [rd_set _ _ _ _ (by omega), if_neg (by omega), hp _ (by omega), if_neg (by omega), if_neg (by omega)]
        have da2 := P.da (a.length - 1 - (j + 1)) (by omega)
        rw [hrd, w64 (by omega) (by omega), ← hn]
        refine ih (j + 1) _ (by omega) (by simp [hx]) (fun p h => ?_)
        rw [rd_set _ _ _ _ (by simp; omega), rd_set _ _ _ _ (by omega)]
        by_cases e1 : p = a.length - 1 - (j + 1)
        · rw [if_pos e1, if_neg (by omega), if_pos (by omega), hb1, e1, hn]
        · rw [if_neg e1]
          by_cases e2 : p = a.length - 1 - j
          · rw [if_pos e2, if_pos (by omega), e2]; congr 1; omega
          · rw [if_neg e2, hp p h]
            by_cases e3 : a.length - j ≤ p
            · rw [if_pos e3, if_pos (by omega)]
            · rw [if_neg e3, if_neg (by omega), if_neg (by omega), if_neg (by omega)]
      · rw [if_neg c] at hb1
        rw [hb1, Int.mul_zero, Int.add_zero] at hdif
        rw [← hdif] at c ⊢
        refine Ev.neg c ?_
        refine ih (j + 1) _ (by omega) (by simp [hx]) (fun p h => ?_)
        rw [rd_set _ _ _ _ (by omega)]
        by_cases e2 : p = a.length - 1 - j
        · rw [if_pos e2, if_pos (by omega), e2]; congr 1; omega
        · rw [if_neg e2, hp p h]
          by_cases e3 : a.length - j ≤ p
          · rw [if_pos e3, if_pos (by omega)]
          · rw [if_neg e3, if_neg (by omega), if_neg (by omega)]
            by_cases e4 : p + 1 = a.length - (j + 1)
            · rw [if_pos e4, hb1]; omega
            · rw [if_neg e4]
  have hw : wrap64 ((a.length : Int) - 1) = (a.length : Int) - 1 - ((0 : Nat) : Int) := by rw [w64 (by omega) (by omega)]; omega
  rw [hw]
  exact key a.length 0 a (by omega) rfl (fun p h => by
    rw [if_neg (by omega)]
    by_cases e : p + 1 = a.length - 0
    · rw [if_pos e, bor]; omega
    · rw [if_neg e])
theorem subS_ev {q : Int} {a b : List Int} (P : Pair2 q a b) : Ev (fun k => spec_SubtractReversed.j0 k q a b) (stripZ (difS q a b), true) := by
  have hlen := P.len
  have hq := P.q2
  have hq2 := P.q16
  have hpos := P.pos
  have key : ∀ (d j : Nat) (x : List Int), j + d = a.length → x.length = a.length → (∀ p < a.length, a.length - j ≤ p → rd x (p : Int) = dif q a b (a.length - 1 - p)) →
      Ev (fun k => spec_SubtractReversed.l0 k q a b x (bor a b j) ((a.length : Int) - 1 - j)) (stripZ (difS q a b), true) := by
    intro d
    induction d with
    | zero =>
      intro j x hj hx hp
      have e : x = difS q a b := rd_ext (by rw [hx]; simp [difS]) (fun p h => by rw [hp p (by omega) (by omega), rd_difS _ _ _ (by omega)])
      rw [← e]
      exact Ev.step (fun k => by rw [spec_SubtractReversed.l0]) (Ev.neg (by omega) (stripS_ev x (by omega) (by omega)))
    | succ d ih =>
      intro j x hj hx hp
      have hi : (a.length : Int) - 1 - (j : Int) = ((a.length - 1 - j : Nat) : Int) := by omega
      have hsame := P.same
      have b0 := bor_01 a b j
      have da := P.da (a.length - 1 - j) (by omega)
      have db := P.db (a.length - 1 - j) (by omega)
      have hb1 : bor a b (j + 1) = if rd a ((a.length - 1 - j : Nat) : Int) - rd b ((a.length - 1 - j : Nat) : Int) - bor a b j < 0 then 1 else 0 := rfl
      have hdif : dif q a b j = rd a ((a.length - 1 - j : Nat) : Int) - rd b ((a.length - 1 - j : Nat) : Int) - bor a b j + q * bor a b (j + 1) := rfl
      have hw : wrap64 (wrap64 (rd a ((a.length - 1 - j : Nat) : Int) - rd b ((a.length - 1 - j : Nat) : Int)) - bor a b j) = rd a ((a.length - 1 - j : Nat) : Int) - rd b ((a.length - 1 - j : Nat) : Int) - bor a b j := by rw [w64 (n := rd a ((a.length - 1 - j : Nat) : Int) - rd b ((a.length - 1 - j : Nat) : Int)) (by omega) (by omega), w64 (by omega) (by omega)]
      have hwn : wrap64 (((a.length - 1 - j : Nat) : Int) - 1) = (a.length : Int) - 1 - ((j + 1 : Nat) : Int) := by rw [w64 (by omega) (by omega)]; omega
      refine Ev.step (fun k => by rw [spec_SubtractReversed.l0]) ?_
      rw [hi, hw, hwn, Int.toNat_natCast]
      refine Ev.pos (by omega) (Ev.pos (by omega) (Ev.pos (by omega) (Ev.pos (by omega) ?_)))
      have next : ∀ p < a.length, a.length - (j + 1) ≤ p → rd (x.set (a.length - 1 - j) (dif q a b j)) (p : Int) = dif q a b (a.length - 1 - p) := by
        intro p h h2
        rw [rd_set _ _ _ _ (by omega)]
        by_cases e : p = a.length - 1 - j
        · rw [if_pos e, e]; congr 1; omega
        · rw [if_neg e]; exact hp p h (by omega)
      by_cases c : rd a ((a.length - 1 - j : Nat) : Int) - rd b ((a.length - 1 - j : Nat) : Int) - bor a b j < 0
      · rw [if_pos c] at hb1
        rw [hb1, Int.mul_one] at hdif
        rw [w64 (n := rd a ((a.length - 1 - j : Nat) : Int) - rd b ((a.length - 1 - j : Nat) : Int) - bor a b j + q) (by omega) (by omega), ← hdif]
        refine Ev.pos c (Ev.pos (by omega) ?_)
        have := ih (j + 1) _ (by omega) (by simp [hx]) next
        rw [hb1] at this
        exact this
      · rw [if_neg c] at hb1
        rw [hb1, Int.mul_zero, Int.add_zero] at hdif
        rw [← hdif] at c ⊢
        refine Ev.neg c (Ev.pos (by omega) ?_)
        have := ih (j + 1) _ (by omega) (by simp [hx]) next
        rw [hb1] at this
        exact this
  have hw : wrap64 ((a.length : Int) - 1) = (a.length : Int) - 1 - ((0 : Nat) : Int) := by rw [w64 (by omega) (by omega)]; omega
  refine Ev.step (fun k => by rw [spec_SubtractReversed.j0]) ?_
  rw [hw, Int.toNat_natCast]
  refine Ev.pos (by omega) (Ev.pos (by omega) ?_)
  exact key a.length 0 (List.replicate a.length 0) (by omega) (by simp) (fun p h h2 => by omega)
theorem rev_digits {D : List Int} {b : Int} (G : Good D b) : ∀ p < D.length, 0 ≤ rd D.reverse (p : Int) ∧ rd D.reverse (p : Int) ≤ b - 1 := by
  intro p h
  rw [rd_rev h]
  exact G.dig _ (by omega)
theorem subtract_ev (D : List Int) (b : Int) (G : Good D b) : ∃ r, Ev (fun k => impl_SubtractReversed.f k D b) (r, true) ∧ Ev (fun k => spec_SubtractReversed.f k D b) (r, true) ∧ (r.length : Int) ≤ 1048576 := by
  have hlen := G.len
  have hg : goodB D b = true := (goodB_iff D b).2 G
  have hg2 := rvGood_ev D b
  rw [hg] at hg2
  have hcl : slices_Clone_int_int.f D = some D := if_pos (by omega)
  have hrl : D.length = D.reverse.length := by simp
  obtain ⟨r, e1, e2⟩ := compare_ev D D.reverse hrl (by omega)
  have hown : spec_l1Own.f D = some D := by
    unfold spec_l1Own.f
    simp only [Option.bind_some, List.length_nil, Nat.zero_add, List.nil_append]
    exact if_pos (by omega)
  have hback : Ev (fun k => spec_dgBack.f k D) D.reverse := back_l0 spec_dgBack.l0 (fun _ _ _ _ => by rw [spec_dgBack.l0]) D (by omega)
  have hless := rvLess_ev D D.reverse hrl (by omega)
  have hs : ∀ (x : List Int), x.length ≤ 40 → ((stripZ x).length : Int) ≤ 1048576 := by
    have : ∀ (x : List Int), (stripZ x).length ≤ x.length := by
      intro x
      induction x with
      | nil => exact Nat.le_refl _
      | cons x t ih => cases t with
        | nil => exact Nat.le_refl _
        | cons y t =>
          rw [stripZ]
          split
          · have h1 := ih; simp only [List.length_cons] at h1 ⊢; omega
          · exact Nat.le_refl _
    intro x hx
    have := this x
    omega
  cases c : lexLt D D.reverse with
  | true =>
    rw [c] at e2 hless
    have P : Pair2 b D.reverse D := ⟨G.b2, G.b16, hrl.symm, by rw [← hrl]; exact G.pos, by rw [← hrl]; exact G.len, fun p h => rev_digits G p (by omega), fun p h => G.dig p (by omega), lexLt_asymm _ _ c⟩
    refine ⟨stripZ (difS b D.reverse D), ?_, ?_, hs _ (by simp [difS]; omega)⟩
    · exact Ev.pure_bind (isLong_f D b) (Ev.pos hg (Ev.pure_bind hcl (Ev.bind (reversed_ev D (by omega)) (Ev.bind e1 (Ev.pos (of_decide_eq_true e2) (Ev.step (fun k => by rw [impl_SubtractReversed.j0]) (subI_ev P)))))))
    · exact Ev.bind hg2 (Ev.pos rfl (Ev.pure_bind hown (Ev.bind hback (Ev.bind hless (Ev.pos rfl (subS_ev P))))))
  | false =>
    rw [c] at e2 hless
    have P : Pair2 b D D.reverse := ⟨G.b2, G.b16, hrl, G.pos, G.len, fun p h => G.dig p h, fun p h => rev_digits G p h, c⟩
    refine ⟨stripZ (difS b D D.reverse), ?_, ?_, hs _ (by simp [difS]; omega)⟩
    · exact Ev.pure_bind (isLong_f D b) (Ev.pos hg (Ev.pure_bind hcl (Ev.bind (reversed_ev D (by omega)) (Ev.bind e1 (Ev.neg (of_decide_eq_false e2) (Ev.step (fun k => by rw [impl_SubtractReversed.j0]) (subI_ev P)))))))
    · exact Ev.bind hg2 (Ev.pos rfl (Ev.pure_bind hown (Ev.bind hback (Ev.bind hless (Ev.neg (by simp) (subS_ev P))))))

/-! ### the law on sums with the same backwards -/
theorem dgBack_ev (D : List Int) (h : (D.length : Int) ≤ 1048576) : Ev (fun k => spec_dgBack.f k D) D.reverse := back_l0 spec_dgBack.l0 (fun _ _ _ _ => by rw [spec_dgBack.l0]) D h
theorem qBack_ev (D : List Int) (h : (D.length : Int) ≤ 1048576) : Ev (fun k => laws_qBack.f k D) D.reverse := back_l0 laws_qBack.l0 (fun _ _ _ _ => by rw [laws_qBack.l0]) D h
theorem qSame_ev (a b : List Int) (hl : a.length = b.length) (hb : (a.length : Int) ≤ 4611686018427387904) : Ev (fun k => laws_qSame.f k a b) (decide (a = b)) :=
  Ev.pos (by omega) (same_l0 laws_qSame.l0 (fun _ _ _ _ _ => by rw [laws_qSame.l0]) a b hl hb)
theorem qSame_self (a : List Int) (hb : (a.length : Int) ≤ 4611686018427387904) : Ev (fun k => laws_qSame.f k a a) true := by
  have := qSame_ev a a rfl hb
  rwa [decide_eq_true rfl] at this
theorem l1Same_ev (a b : List Int) (hl : a.length = b.length) (hb : (a.length : Int) ≤ 4611686018427387904) : Ev (fun k => spec_l1Same.f k a b) (decide (a = b)) :=
  Ev.pos (by omega) (same_l0 spec_l1Same.l0 (fun _ _ _ _ _ => by rw [spec_l1Same.l0]) a b hl hb)
theorem equal_ev (a b : List Int) (hl : a.length = b.length) (hb : (a.length : Int) ≤ 4611686018427387904) : Ev (fun k => slices_Equal_int_int.f k a b) (decide (a = b)) :=
  Ev.pos (by omega) (same_l0 slices_Equal_int_int.l0 (fun _ _ _ _ _ => by rw [slices_Equal_int_int.l0]) a b hl hb)
theorem isSymmetric_ev (D : List Int) (b : Int) : ∃ s, Ev (fun k => impl_IsSymmetric.f k D b) (s, goodB D b) ∧ Ev (fun k => spec_IsSymmetric.f k D b) (s, goodB D b) ∧ (Good D b → s = decide (D = D.reverse)) ∧ (¬ Good D b → s = false) := by
  have hg := rvGood_ev D b
  have hi := isLong_f D b
  cases c : goodB D b with
  | true =>
    rw [c] at hg hi
    have G := (goodB_iff D b).1 c
    have hl := G.len
    have hrl : D.length = D.reverse.length := by simp
    refine ⟨decide (D = D.reverse), Ev.pure_bind hi (Ev.pos rfl (Ev.bind (a := decide (D = D.reverse)) (Ev.bind (reversed_ev D (by omega)) (Ev.bind (equal_ev D _ hrl (by omega)) (Ev.now _))) (Ev.now _))), Ev.bind hg (Ev.pos rfl (Ev.bind (a := decide (D = D.reverse)) (Ev.bind (dgBack_ev D (by omega)) (Ev.bind (l1Same_ev D _ hrl (by omega)) (Ev.now _))) (Ev.now _))), fun _ => rfl, fun h => absurd G h⟩
  | false =>
    rw [c] at hg hi
    have nG : ¬ Good D b := fun G => by rw [(goodB_iff D b).2 G] at c; cases c
    exact ⟨false, Ev.pure_bind hi (Ev.neg (by simp) (Ev.now _)), Ev.bind hg (Ev.neg (by simp) (Ev.now _)), fun G => absurd G nG, fun _ => rfl⟩
/-! #### draws -/
theorem most_f (a b : Int) : ∃ m, spec_l1Most.f a b = some m := by
  unfold spec_l1Most.f
  by_cases c : a > b
  · exact ⟨_, if_pos c⟩
  · exact ⟨_, if_neg c⟩
theorem digits_ev (l : List Int) (hl : Bytes l) (p s n : Int) (hp : 0 ≤ p ∧ p ≤ 4611686018427380000) (hn : 1 < n ∧ n ≤ 100) : ∃ D b q t, Ev (fun k => spec_l1Cur_digits.f k l p s n) (D, b, q, t) ∧ D.length ≤ 200 ∧ p ≤ q ∧ q ≤ p + 1000 := by
  have key : ∀ (d : Nat) (b : Int) (D : List Int) (q t : Int), 0 ≤ q → q + 2 * d ≤ 4611686018427386000 → 0 < D.length → D.length + d ≤ 200 → d ≤ 100 → ∃ D' q' t', Ev (fun k => spec_l1Cur_digits.l0 k b D (d : Int) l q t) (D', b, q', t') ∧ D'.length ≤ 200 ∧ q ≤ q' ∧ q' ≤ q + 2 * d + 10 := by
    intro d
    induction d with
    | zero =>
      intro b D q t h0 h1 h2 h3 _
      obtain ⟨v, q1, t1, e1, d1⟩ := pick_ev l hl q t 16 (by omega)
      have r1 := d1.from_
      have r2 := d1.to_
      by_cases c0 : v = 0
      · obtain ⟨v2, q2, t2, e2, d2⟩ := pick_ev l hl q1 t1 (D.length : Int) (by omega)
        have r3 := d2.from_
        have r4 := d2.to_
        have r5 := d2.lo
        have r6 : v2 < (D.length : Int) := by
          by_cases c : 1 < (D.length : Int)
          · exact d2.hi c
          · have := d2.one (by omega); omega
        obtain ⟨v3, q3, t3, e3, _, r7, r8⟩ := among_ev l hl q2 t2 (by omega) ([(-1), 0, b, 4611686018427387904] : List Int) (by simp)
        refine ⟨D.set v2.toNat v3, q3, t3, Ev.step (fun k => by rw [spec_l1Cur_digits.l0]) ?_, by rw [List.length_set]; omega, by omega, by omega⟩
        exact Ev.neg (by omega) (Ev.pure_bind e1 (Ev.pos c0 (Ev.pure_bind e2 (Ev.pure_bind e3 (Ev.pos r5 (Ev.pos r6 (Ev.now _)))))))
      by_cases c1 : v = 1
      · obtain ⟨v3, q3, t3, e3, hm, r7, r8⟩ := among_ev l hl q1 t1 (by omega) ([0, 1, 2] : List Int) (by simp)
        have hv : 0 ≤ v3 ∧ v3 ≤ 2 := by simp at hm; omega
        have hv2 : v3.toNat ≤ 35184372088832 := by omega
        refine ⟨List.replicate v3.toNat 0, q3, t3, Ev.step (fun k => by rw [spec_l1Cur_digits.l0]) ?_, by rw [List.length_replicate]; omega, by omega, by omega⟩
        exact Ev.neg (by omega) (Ev.pure_bind e1 (Ev.neg c0 (Ev.pos c1 (Ev.pure_bind e3 (Ev.pos hv.1 (Ev.pos hv2 (Ev.now _)))))))
      by_cases c2 : v = 2
      · obtain ⟨v2, q2, t2, e2, d2⟩ := pick_ev l hl q1 t1 2 (by omega)
        have r3 := d2.from_
        have r4 := d2.to_
        have r5 := d2.lo
        have r6 := d2.hi (by omega)
        have hw : wrap64 (40 + v2) = 40 + v2 := w64 (by omega) (by omega)
        have h1 : 0 ≤ wrap64 (40 + v2) := by omega
        have h2 : (wrap64 (40 + v2)).toNat ≤ 35184372088832 := by omega
        have h3 : (0 : Int) < ((List.replicate (wrap64 (40 + v2)).toNat (0 : Int)).length : Int) := by rw [List.length_replicate]; omega
        refine ⟨(List.replicate (wrap64 (40 + v2)).toNat 0).set (0 : Int).toNat 1, q2, t2, Ev.step (fun k => by rw [spec_l1Cur_digits.l0]) ?_, by rw [List.length_set, List.length_replicate]; omega, by omega, by omega⟩
        exact Ev.neg (by omega) (Ev.pure_bind e1 (Ev.neg c0 (Ev.neg c1 (Ev.pos c2 (Ev.pure_bind e2 (Ev.pos h1 (Ev.pos h2 (Ev.pure_bind rfl (Ev.pos h3 (Ev.now _))))))))))
      · refine ⟨D, q1, t1, Ev.step (fun k => by rw [spec_l1Cur_digits.l0]) ?_, by omega, by omega, by omega⟩
        exact Ev.neg (by omega) (Ev.pure_bind e1 (Ev.neg c0 (Ev.neg c1 (Ev.neg c2 (Ev.now _)))))
    | succ d ih =>
      intro b D q t h0 h1 h2 h3 h4
      obtain ⟨m, em⟩ := most_f 1 b
      obtain ⟨v, q1, t1, e1, d1⟩ := pick_ev l hl q t m (by omega)
      have r1 := d1.from_
      have r2 := d1.to_
      have hw : wrap64 (((d + 1 : Nat) : Int) - 1) = (d : Int) := by rw [w64 (by omega) (by omega)]; omega
      have hlim : D.length < 17592186044416 := by omega
      obtain ⟨D', q2, t2, e2, r3, r4, r5⟩ := ih b (D ++ [v]) q1 t1 (by omega) (by omega) (by simp) (by simp only [List.length_append, List.length_cons, List.length_nil]; omega) (by omega)
      refine ⟨D', q2, t2, Ev.step (fun k => by rw [spec_l1Cur_digits.l0]) (Ev.pos (by omega) (Ev.pure_bind em (Ev.pure_bind e1 (Ev.pos hlim ?_)))), r3, by omega, by omega⟩
      rw [hw]; exact e2
  obtain ⟨b, q1, t1, e1, _, r1, r2⟩ := among_ev l hl p s (by omega) ([10, 10, 10, 2, 3, 5, 7, 16, 12, 10, 10, 16, 1, 17, 0] : List Int) (by decide)
  have eb : spec_l1Cur_base.f l p s = some (b, q1, t1) := by unfold spec_l1Cur_base.f; rw [e1]; rfl
  obtain ⟨m, em⟩ := most_f 1 (wrap64 (b - 1))
  obtain ⟨v, q2, t2, e2, d2⟩ := pick_ev l hl q1 t1 m (by omega)
  have r3 := d2.from_
  have r4 := d2.to_
  obtain ⟨w, q3, t3, e3, d3⟩ := pick_ev l hl q2 t2 n (by omega)
  have r5 := d3.from_
  have r6 := d3.to_
  have r7 := d3.lo
  have r8 := d3.hi hn.1
  obtain ⟨c, rfl⟩ : ∃ c : Nat, w = (c : Int) := ⟨w.toNat, by omega⟩
  obtain ⟨D', q4, t4, e4, r9, r10, r11⟩ := key c b [wrap64 (1 + v)] q3 t3 (by omega) (by omega) (by simp) (by simp; omega) (by omega)
  exact ⟨D', b, q4, t4, Ev.pure_bind eb (Ev.pure_bind em (Ev.pure_bind e2 (Ev.pure_bind e3 e4))), r9, by omega, by omega⟩
theorem sumS_len (b : Int) (z : Nat → Int) (n : Nat) : (sumS b z n).length = if cr b z n > 0 then n + 1 else n := by
  unfold sumS
  split <;> simp
theorem drawAdd_ev (l : List Int) (hl : Bytes l) : ∃ D b, Ev (fun k => spec_DrawAddReversed.f k l) (D, b) ∧ D.length ≤ 200 := by
  obtain ⟨D, b, q, t, e, h, _⟩ := digits_ev l hl 0 0 9 (by omega) (by omega)
  exact ⟨D, b, Ev.bind e (Ev.now _), h⟩
theorem drawSym_ev (l : List Int) (hl : Bytes l) : ∃ D b, Ev (fun k => spec_DrawIsSymmetric.f k l) (D, b) ∧ D.length ≤ 200 := by
  obtain ⟨D, b, q, t, e, h, r1, r2⟩ := digits_ev l hl 0 0 7 (by omega) (by omega)
  have hg := rvGood_ev D b
  have keep : ∀ q t, Ev (fun k => spec_l1Cur_added.j0 k D b false l q t) (D, b, q, t) := fun q t => by
    refine Ev.step (fun k => by rw [spec_l1Cur_added.j0]) ?_
    exact Ev.neg (by simp) (Ev.now _)
  cases c : goodB D b with
  | false =>
    rw [c] at hg
    exact ⟨D, b, Ev.bind (Ev.bind e (Ev.bind hg (Ev.neg (by simp) (keep q t)))) (Ev.now _), h⟩
  | true =>
    rw [c] at hg
    have G := (goodB_iff D b).1 c
    obtain ⟨v, q1, t1, e1, _⟩ := one_ev l hl q t 2 (by omega)
    cases v with
    | false => exact ⟨D, b, Ev.bind (Ev.bind e (Ev.bind hg (Ev.pos rfl (Ev.pure_bind e1 (keep q1 t1))))) (Ev.now _), h⟩
    | true =>
      have e2 := rvAdd_ev D b G
      by_cases cl : ((sumS b (zD D) D.length).length : Int) ≤ 40
      · refine ⟨sumS b (zD D) D.length, b, Ev.bind (a := (sumS b (zD D) D.length, b, q1, t1)) (Ev.bind e (Ev.bind hg (Ev.pos rfl (Ev.pure_bind e1 (Ev.step (fun k => by rw [spec_l1Cur_added.j0]) ?_))))) (Ev.now _), by omega⟩
        exact Ev.pos rfl (Ev.bind e2 (Ev.pos cl (Ev.now _)))
      · refine ⟨D, b, Ev.bind (a := (D, b, q1, t1)) (Ev.bind e (Ev.bind hg (Ev.pos rfl (Ev.pure_bind e1 (Ev.step (fun k => by rw [spec_l1Cur_added.j0]) ?_))))) (Ev.now _), h⟩
        exact Ev.pos rfl (Ev.bind e2 (Ev.neg cl (Ev.now _)))

theorem rd_low (b : Int) (z : Nat → Int) (n i : Nat) (h : i < n) : rd ((List.range n).map (dg b z)).reverse (i : Int) = dg b z (n - 1 - i) := by
  rw [rd_rev (by simpa using h)]
  have : ((List.range n).map (dg b z)).length = n := by simp
  rw [this, rd_tab _ (by omega)]
theorem rd_sumS (b : Int) (z : Nat → Int) (n i : Nat) (h : i < n) (hc : 0 ≤ cr b z n ∧ cr b z n ≤ 1) : rd (sumS b z n) (cr b z n + i) = dg b z (n - 1 - i) := by
  unfold sumS
  by_cases c : cr b z n > 0
  · rw [if_pos c, show cr b z n + (i : Int) = ((i + 1 : Nat) : Int) by omega, rd_q, List.getElem?_cons_succ, ← rd_q, rd_low b z n i h]
  · rw [if_neg c, show cr b z n + (i : Int) = (i : Int) by omega, rd_low b z n i h]
theorem sumS_mem {D : List Int} {b : Int} (G : Good D b) : ∀ x ∈ sumS b (zD D) D.length, 0 ≤ x ∧ x ≤ b - 1 := by
  have hc := cr_bound b (zD D) G.b2 D.length G.z D.length (Nat.le_refl _)
  have hb := G.b2
  have low : ∀ x ∈ ((List.range D.length).map (dg b (zD D))).reverse, 0 ≤ x ∧ x ≤ b - 1 := by
    intro x hx
    rw [List.mem_reverse, List.mem_map] at hx
    obtain ⟨j, _, rfl⟩ := hx
    have := dg_bound b (zD D) hb j
    omega
  intro x hx
  unfold sumS at hx
  by_cases c : cr b (zD D) D.length > 0
  · rw [if_pos c] at hx
    rcases List.mem_cons.1 hx with rfl | hx
    · omega
    · exact low x hx
  · rw [if_neg c] at hx; exact low x hx
theorem sumS_good {D : List Int} {b : Int} (G : Good D b) (h : ((sumS b (zD D) D.length).length : Int) ≤ 40) : Good (sumS b (zD D) D.length) b := by
  have hc := cr_bound b (zD D) G.b2 D.length G.z
  have hl := sumS_len b (zD D) D.length
  have hp := G.pos
  refine ⟨G.b2, G.b16, by rw [hl]; split <;> omega, by omega, fun p hp => sumS_mem G _ (rd_mem hp), ?_⟩
  by_cases c : cr b (zD D) D.length > 0
  · left
    unfold sumS
    rw [if_pos c]
    exact c
  · rw [if_neg c] at hl
    by_cases c1 : D.length = 1
    · right; omega
    · left
      have h0 : rd (sumS b (zD D) D.length) 0 = dg b (zD D) (D.length - 1) := by
        have := rd_sumS b (zD D) D.length 0 hp (hc _ (Nat.le_refl _))
        have e0 : cr b (zD D) D.length = 0 := by have := hc _ (Nat.le_refl D.length); omega
        rw [e0] at this
        exact this
      have hf : rd D 0 > 0 := G.front.resolve_right c1
      have hz : zD D (D.length - 1) = rd D ((D.length - 1 : Nat) : Int) + rd D 0 := by
        unfold zD
        congr 2
        omega
      have hd := dg_cr b (zD D) (D.length - 1)
      rw [show D.length - 1 + 1 = D.length by omega] at hd
      have e0 : cr b (zD D) D.length = 0 := by have := hc _ (Nat.le_refl D.length); omega
      rw [e0, Int.mul_zero, Int.add_zero] at hd
      have h2 := hc (D.length - 1) (by omega)
      have h3 := G.dig (D.length - 1) (by omega)
      rw [h0]
      omega
theorem zD_rev (D : List Int) : ∀ j < D.length, zD D.reverse j = zD D j := by
  intro j hj
  unfold zD
  rw [List.length_reverse, rd_rev hj, rd_rev (by omega), Int.add_comm]
  congr 2
  omega
theorem sumS_rev (D : List Int) (b : Int) : sumS b (zD D.reverse) D.reverse.length = sumS b (zD D) D.length := by
  have h := cr_congr b (zD D.reverse) (zD D) D.length (zD_rev D)
  rw [List.length_reverse]
  unfold sumS
  have hd : (List.range D.length).map (dg b (zD D.reverse)) = (List.range D.length).map (dg b (zD D)) := by
    apply List.map_congr_left
    intro j hj
    rw [List.mem_range] at hj
    unfold dg
    rw [h j (by omega), zD_rev D j hj]
  rw [hd, h _ (Nat.le_refl _)]
theorem good_rev {D : List Int} {b : Int} (G : Good D b) (h : rd D ((D.length - 1 : Nat) : Int) > 0) : Good D.reverse b := by
  refine ⟨G.b2, G.b16, by simpa using G.pos, by simpa using G.len, fun p hp => rev_digits G p (by simpa using hp), .inl ?_⟩
  have := rd_rev (xs := D) (p := 0) G.pos
  rw [show ((0 : Nat) : Int) = 0 from rfl] at this
  rw [this]
  exact h
/-- Nothing is carried. -/
def NoC (b : Int) (z : Nat → Int) (n : Nat) : Prop := ∀ j < n, cr b z (j + 1) = 0
theorem NoC.sym {D : List Int} {b : Int} (G : Good D b) (h : NoC b (zD D) D.length) : sumS b (zD D) D.length = (sumS b (zD D) D.length).reverse := by
  have hp := G.pos
  have h0 : ∀ j ≤ D.length, cr b (zD D) j = 0 := by
    intro j hj
    cases j with
    | zero => rfl
    | succ j => exact h j (by omega)
  have hd : ∀ j < D.length, dg b (zD D) j = zD D j := by
    intro j hj
    have := dg_cr b (zD D) j
    rw [h j hj, h0 j (by omega)] at this
    omega
  have hS : sumS b (zD D) D.length = ((List.range D.length).map (dg b (zD D))).reverse := by
    unfold sumS
    rw [if_neg (by rw [h0 _ (Nat.le_refl _)]; omega)]
  rw [hS, List.reverse_reverse]
  apply rd_ext (by simp)
  intro p hpp
  have hpp : p < D.length := by simpa using hpp
  rw [rd_low _ _ _ _ hpp, rd_tab _ hpp, hd _ (by omega), hd _ hpp]
  unfold zD
  rw [show D.length - 1 - (D.length - 1 - p) = p by omega, Int.add_comm]
theorem qSum_ev (b : Int) (z : Nat → Int) (n : Nat) (hn : n ≤ 40) (hc : ∀ j ≤ n, 0 ≤ cr b z j ∧ cr b z j ≤ 1) : ∃ s, Ev (fun k => laws_qSum.f k (carS b z n)) s ∧ (s = 0 ↔ NoC b z n) := by
  have hl : (carS b z n).length = n := by simp [carS]
  have hrd : ∀ j < n, rd (carS b z n) (j : Int) = cr b z (j + 1) := fun j hj => rd_tab _ hj
  have key : ∀ (d j : Nat) (s : Int), j + d = n → 0 ≤ s ∧ s ≤ j → (s = 0 ↔ NoC b z j) → ∃ s', Ev (fun k => laws_qSum.l0 k s (carS b z n) (n : Int) (j : Int)) s' ∧ (s' = 0 ↔ NoC b z n) := by
    intro d
    induction d with
    | zero =>
      intro j s hj hs hi
      obtain rfl : j = n := by omega
      exact ⟨s, Ev.step (fun k => by rw [laws_qSum.l0]) (Ev.neg (by omega) (Ev.now _)), hi⟩
    | succ d ih =>
      intro j s hj hs hi
      have hcj := hc (j + 1) (by omega)
      have hw : wrap64 ((j : Int) + 1) = ((j + 1 : Nat) : Int) := by rw [w64 (by omega) (by omega)]; omega
      have hw2 : wrap64 (s + rd (carS b z n) (j : Int)) = s + cr b z (j + 1) := by rw [hrd j (by omega), w64 (by omega) (by omega)]
      obtain ⟨s', e, hs'⟩ := ih (j + 1) (s + cr b z (j + 1)) (by omega) (by omega) (by
        constructor
        · intro h
          have h1 := hi.1 (by omega)
          intro i hij
          by_cases c : i = j
          · rw [c]; omega
          · exact h1 i (by omega)
        · intro h
          have h1 := hi.2 (fun i hij => h i (by omega))
          have h2 := h j (by omega)
          omega)
      refine ⟨s', Ev.step (fun k => by rw [laws_qSum.l0]) (Ev.pos (by omega) (Ev.pos (by omega) (Ev.pos (by omega) ?_))), hs'⟩
      rw [hw, hw2]; exact e
  have := key n 0 0 (by omega) (by omega) ⟨fun _ j hj => by omega, fun _ => rfl⟩
  unfold laws_qSum.f
  rw [hl]
  exact this
theorem noCarry_ev (D : List Int) (b : Int) (G : Good D b) : ∃ v, Ev (fun k => impl_HasNoCarry.f k D b) (v, true) ∧ Ev (fun k => spec_HasNoCarry.f k D b) (v, true) ∧ (v = true ↔ NoC b (zD D) D.length) := by
  have hg : goodB D b = true := (goodB_iff D b).2 G
  have hg2 := rvGood_ev D b
  rw [hg] at hg2
  have hlen := G.len
  have hc := cr_bound b (zD D) G.b2 D.length G.z
  have hl : (carS b (zD D) D.length).length = D.length := by simp [carS]
  have hmem : ∀ x, x ∈ carS b (zD D) D.length ↔ ∃ j < D.length, cr b (zD D) (j + 1) = x := by
    intro x
    unfold carS
    rw [List.mem_map]
    exact ⟨fun ⟨j, h, e⟩ => ⟨j, List.mem_range.1 h, e⟩, fun ⟨j, h, e⟩ => ⟨j, List.mem_range.2 h, e⟩⟩
  have e1 := contains_ev (carS b (zD D) D.length) 1 (by omega)
  have e2 := l1All_ev 0 0 (carS b (zD D) D.length) (by omega)
  have hv : ((carS b (zD D) D.length).all fun x => decide (0 ≤ x ∧ x ≤ 0)) = !(decide (1 ∈ carS b (zD D) D.length)) := by
    rw [Bool.eq_iff_iff]
    simp only [List.all_eq_true, decide_eq_true_iff, Bool.not_eq_true', decide_eq_false_iff_not]
    constructor
    · intro h h1
      have := h 1 h1
      omega
    · intro h x hx
      obtain ⟨j, hj, e⟩ := (hmem x).1 hx
      have hb := hc (j + 1) (by omega)
      by_cases c : x = 1
      · rw [c] at hx; exact absurd hx h
      · omega
  rw [hv] at e2
  refine ⟨!(decide (1 ∈ carS b (zD D) D.length)), Ev.pure_bind (isLong_f D b) (Ev.pos hg (Ev.bind (summed_ev D b G) (Ev.bind e1 (Ev.now _)))), Ev.bind hg2 (Ev.pos rfl (Ev.bind (rvAdd_ev D b G) (Ev.bind e2 (Ev.now _)))), ?_⟩
  simp only [Bool.not_eq_true', decide_eq_false_iff_not]
  constructor
  · intro h j hj
    have hb := hc (j + 1) (by omega)
    by_cases c : cr b (zD D) (j + 1) = 1
    · exact absurd ((hmem 1).2 ⟨j, hj, c⟩) h
    · omega
  · intro h h1
    obtain ⟨j, hj, e⟩ := (hmem 1).1 h1
    rw [h j hj] at e
    omega
theorem j3_ev (more : List Int) (hl : Bytes more) : Ev (fun k => laws_FnAddedBackwards.j3 k more) true := by
  obtain ⟨D, b, e, h⟩ := drawSym_ev more hl
  obtain ⟨s, e1, e2, h1, h2⟩ := isSymmetric_ev D b
  have q1 : ¬ ((goodB D b != goodB D b) = true) := by simp
  have q2 : ¬ ((s != s) = true) := by simp
  refine Ev.step (fun k => by rw [laws_FnAddedBackwards.j3]) (Ev.bind e (Ev.bind e1 (Ev.bind e2 (Ev.neg q1 (Ev.neg q2 ?_)))))
  cases c : goodB D b with
  | false => exact Ev.neg (by simp) (Ev.now _)
  | true =>
    have hs := h1 ((goodB_iff D b).1 c)
    refine Ev.pos rfl (Ev.bind (qBack_ev D (by omega)) (Ev.bind (qSame_ev D _ (by simp) (by omega)) (Ev.some ?_)))
    rw [hs]; simp
theorem j2_ev (more D : List Int) (b : Int) (hl : Bytes more) (G : Good D b) (hS : ((sumS b (zD D) D.length).length : Int) ≤ 40) (x : Bool) (hx : x = false) :
    Ev (fun k => laws_FnAddedBackwards.j2 k more D b (sumS b (zD D) D.length) (D.length : Int) D.reverse x) true := by
  subst hx
  have hp := G.pos
  have hlen := G.len
  have hw : wrap64 ((D.length : Int) - 1) = ((D.length - 1 : Nat) : Int) := by rw [w64 (by omega) (by omega)]; omega
  refine Ev.step (fun k => by rw [laws_FnAddedBackwards.j2]) (Ev.neg (by simp) ?_)
  rw [hw]
  refine Ev.pos (by omega) (Ev.pos (by omega) ?_)
  by_cases c : rd D ((D.length - 1 : Nat) : Int) > 0
  · have G2 := good_rev G c
    have hg2 : goodB D.reverse b = true := (goodB_iff _ b).2 G2
    have e := summed_ev D.reverse b G2
    rw [sumS_rev] at e
    have hn : ¬ ((sumS b (zD D) D.length).length : Int) > 40 := by omega
    exact Ev.pos c (Ev.bind (a := (sumS b (zD D) D.length, true)) (Ev.pure_bind (isLong_f _ b) (Ev.pos hg2 (Ev.bind e (Ev.neg hn (Ev.now _))))) (Ev.pos rfl (Ev.bind (qSame_self (sumS b (zD D) D.length) (by omega)) (Ev.pos rfl (j3_ev more hl)))))
  · exact Ev.neg c (j3_ev more hl)
theorem l0_ev (more D : List Int) (b : Int) (hl : Bytes more) (G : Good D b) (hS : ((sumS b (zD D) D.length).length : Int) ≤ 40) (v : Bool) (hv : v = true ↔ NoC b (zD D) D.length) :
    ∀ (d j : Nat), j + d = D.length → Ev (fun k => laws_FnAddedBackwards.l0 k more D b (sumS b (zD D) D.length) (carS b (zD D) D.length) v (D.length : Int) D.reverse (cr b (zD D) D.length) (cr b (zD D) j) ((D.length : Int) - 1 - j)) true := by
  have hp := G.pos
  have hlen := G.len
  have hb2 := G.b2
  have hb16 := G.b16
  have hc := cr_bound b (zD D) G.b2 D.length G.z
  have hcn := hc D.length (Nat.le_refl _)
  have hsl := sumS_len b (zD D) D.length
  have hcl : (carS b (zD D) D.length).length = D.length := by simp [carS]
  have hrl : D.reverse.length = D.length := by simp
  intro d
  induction d with
  | zero =>
    intro j hj
    have GS := sumS_good G hS
    have hgS : goodB (sumS b (zD D) D.length) b = true := (goodB_iff _ b).2 GS
    obtain ⟨s, e1, _, h1, _⟩ := isSymmetric_ev (sumS b (zD D) D.length) b
    rw [hgS] at e1
    refine Ev.step (fun k => by rw [laws_FnAddedBackwards.l0]) (Ev.neg (by omega) (Ev.bind e1 (Ev.pos rfl ?_)))
    cases v with
    | true =>
      have hs : s = true := by rw [h1 GS]; exact decide_eq_true (NoC.sym G (hv.1 rfl))
      exact Ev.pos rfl (j2_ev more D b hl G hS _ (by rw [hs]; rfl))
    | false => exact Ev.neg (by simp) (j2_ev more D b hl G hS _ rfl)
  | succ d ih =>
    intro j hj
    have hi : (D.length : Int) - 1 - (j : Int) = ((D.length - 1 - j : Nat) : Int) := by omega
    have hcj := hc j (by omega)
    have hcj1 := hc (j + 1) (by omega)
    have hz := G.z j (by omega)
    have hdb := dg_bound b (zD D) hb2 j
    have hwn : wrap64 ((D.length : Int) - 1 - (j : Int) - 1) = (D.length : Int) - 1 - ((j + 1 : Nat) : Int) := by rw [w64 (by omega) (by omega)]; omega
    have hwo : wrap64 (cr b (zD D) D.length + ((D.length : Int) - 1 - (j : Int))) = cr b (zD D) D.length + ((D.length - 1 - j : Nat) : Int) := by rw [w64 (by omega) (by omega), hi]
    have hwc : wrap64 (wrap64 ((D.length : Int) - 1) - ((D.length : Int) - 1 - (j : Int))) = (j : Int) := by rw [w64 (n := (D.length : Int) - 1) (by omega) (by omega), w64 (by omega) (by omega)]; omega
    have hrc : rd (carS b (zD D) D.length) (j : Int) = cr b (zD D) (j + 1) := rd_tab _ (by omega)
    have hrs : rd (sumS b (zD D) D.length) (cr b (zD D) D.length + ((D.length - 1 - j : Nat) : Int)) = dg b (zD D) j := by
      rw [rd_sumS b (zD D) D.length (D.length - 1 - j) (by omega) hcn]; congr 1; omega
    have hlt : cr b (zD D) D.length + ((D.length - 1 - j : Nat) : Int) < ((sumS b (zD D) D.length).length : Int) := by
      by_cases c : cr b (zD D) D.length > 0
      · rw [if_pos c] at hsl; omega
      · rw [if_neg c] at hsl; omega
    have hzz : rd D ((D.length - 1 - j : Nat) : Int) + rd D.reverse ((D.length - 1 - j : Nat) : Int) = zD D j := by
      rw [rd_rev (by omega), show D.length - 1 - (D.length - 1 - j) = j by omega, Int.add_comm]; rfl
    have hdc := dg_cr b (zD D) j
    have hm : 0 ≤ b * cr b (zD D) (j + 1) ∧ b * cr b (zD D) (j + 1) ≤ 16 := by
      rcases (show cr b (zD D) (j + 1) = 0 ∨ cr b (zD D) (j + 1) = 1 by omega) with e | e
      · rw [e]; omega
      · rw [e]; omega
    refine Ev.step (fun k => by rw [laws_FnAddedBackwards.l0]) ?_
    rw [hwo, hwc, hwn, hrc, hrs, hi, hzz, w64 (n := zD D j) (by omega) (by omega), w64 (n := zD D j + cr b (zD D) j) (by omega) (by omega), w64 (n := b * cr b (zD D) (j + 1)) (by omega) (by omega), w64 (by omega) (by omega)]
    have ho : (0 : Int) ≤ cr b (zD D) D.length + ((D.length - 1 - j : Nat) : Int) := by omega
    exact Ev.pos (by omega) (Ev.pos (by omega) (Ev.pos (by omega) (Ev.pos (by omega) (Ev.pos ho (Ev.pos hlt (Ev.pos (by omega) (Ev.pos (by omega) (Ev.pos hdc.symm (ih (j + 1) (by omega))))))))))
theorem FnAddedBackwards : laws_FnAddedBackwards.Pure := by
  intro l0 l1 _ _ hb0 _ _ hb1
  have hl0 := Bytes.of hb0
  have hl1 := Bytes.of hb1
  suffices Ev (fun k => laws_FnAddedBackwards.f k l0 l1) true from this.rounds
  by_cases cb : 1048576 < (l0.length : Int) ∨ 1048576 < (l0.length : Int) + (l1.length : Int)
  · exact Ev.pure_bind (big_f l0 l1) (Ev.pos (decide_eq_true cb) (Ev.now _))
  refine Ev.pure_bind (big_f l0 l1) (Ev.neg (by simpa using cb) ?_)
  obtain ⟨D, b, e0, hD⟩ := drawAdd_ev l0 hl0
  refine Ev.bind e0 ?_
  have ff : ¬ ((false != false) = true) := by decide
  have tt : ¬ ((true != true) = true) := by decide
  have hg2 := rvGood_ev D b
  cases hg : goodB D b with
  | false =>
    rw [hg] at hg2
    have nf : ¬ goodB D b = true := by rw [hg]; simp
    have fz : ¬ (false = true) := by simp
    have a1 : Ev (fun k => impl_AddReversed.f k D b) ([], false) := Ev.pure_bind (isLong_f D b) (Ev.neg nf (Ev.now _))
    have a2 : Ev (fun k => spec_AddReversed.f k D b) ([], false) := Ev.bind hg2 (Ev.neg fz (Ev.now _))
    have a3 : Ev (fun k => impl_CarriesOf.f k D b) ([], false) := Ev.pure_bind (isLong_f D b) (Ev.neg nf (Ev.now _))
    have a4 : Ev (fun k => spec_CarriesOf.f k D b) ([], false) := Ev.bind hg2 (Ev.neg fz (Ev.now _))
    have a5 : Ev (fun k => impl_HasNoCarry.f k D b) (false, false) := Ev.pure_bind (isLong_f D b) (Ev.neg nf (Ev.now _))
    have a6 : Ev (fun k => spec_HasNoCarry.f k D b) (false, false) := Ev.bind hg2 (Ev.neg fz (Ev.now _))
    have a7 : Ev (fun k => impl_SubtractReversed.f k D b) ([], false) := Ev.pure_bind (isLong_f D b) (Ev.neg nf (Ev.now _))
    have a8 : Ev (fun k => spec_SubtractReversed.f k D b) ([], false) := Ev.bind hg2 (Ev.neg fz (Ev.now _))
    have s0 := qSame_self [] (by simp)
    have fin : Ev (fun k => laws_FnAddedBackwards.j0 k l1 D b [] false [] false false false) true := by
      refine Ev.step (fun k => by rw [laws_FnAddedBackwards.j0]) ?_
      exact Ev.neg fz (Ev.neg fz (j3_ev l1 hl1))
    exact Ev.bind a1 (Ev.bind a2 (Ev.bind a3 (Ev.bind a4 (Ev.bind a5 (Ev.bind a6 (Ev.bind a7 (Ev.bind a8 (Ev.neg ff (Ev.bind s0 (Ev.pos rfl (Ev.neg ff (Ev.bind s0 (Ev.pos rfl (Ev.neg ff (Ev.neg ff (Ev.neg ff (Ev.bind s0 (Ev.pos rfl (Ev.neg ff (Ev.neg ff (Ev.neg fz fin)))))))))))))))))))))
  | true =>
    rw [hg] at hg2
    have G := (goodB_iff D b).1 hg
    have hlen := G.len
    have hp := G.pos
    have hcb := cr_bound b (zD D) G.b2 D.length G.z
    have hsl := sumS_len b (zD D) D.length
    have hcl : (carS b (zD D) D.length).length = D.length := by simp [carS]
    have es := summed_ev D b G
    have er := rvAdd_ev D b G
    obtain ⟨v, v1, v2, hv⟩ := noCarry_ev D b G
    obtain ⟨r, r1, r2, hr⟩ := subtract_ev D b G
    have a3 : Ev (fun k => impl_CarriesOf.f k D b) (carS b (zD D) D.length, true) := Ev.pure_bind (isLong_f D b) (Ev.pos hg (Ev.bind es (Ev.now _)))
    have a4 : Ev (fun k => spec_CarriesOf.f k D b) (carS b (zD D) D.length, true) := Ev.bind hg2 (Ev.pos rfl (Ev.bind er (Ev.now _)))
    have s1 := qSame_self (carS b (zD D) D.length) (by omega)
    have s2 := qSame_self r (by omega)
    have vv : ¬ ((v != v) = true) := by simp
    obtain ⟨q, eq, hq⟩ := qSum_ev b (zD D) D.length hlen hcb
    have hqv : ¬ ((v != (q == 0)) = true) := by
      have : v = (q == 0) := by rw [Bool.eq_iff_iff, hv, ← hq]; simp
      rw [this]; simp
    have hcl' : ((carS b (zD D) D.length).length : Int) = (D.length : Int) := by omega
    have hw : wrap64 ((D.length : Int) - 1) = ((D.length - 1 : Nat) : Int) := by rw [w64 (by omega) (by omega)]; omega
    have hover : rd (carS b (zD D) D.length) ((D.length - 1 : Nat) : Int) = cr b (zD D) D.length := by
      have : rd (carS b (zD D) D.length) ((D.length - 1 : Nat) : Int) = cr b (zD D) (D.length - 1 + 1) := rd_tab _ (by omega)
      rw [this]; congr 1; omega
    have hcn := hcb D.length (Nat.le_refl _)
    by_cases c40 : ((sumS b (zD D) D.length).length : Int) > 40
    · have a1 : Ev (fun k => impl_AddReversed.f k D b) ([], false) := Ev.pure_bind (isLong_f D b) (Ev.pos hg (Ev.bind es (Ev.pos c40 (Ev.now _))))
      have a2 : Ev (fun k => spec_AddReversed.f k D b) ([], false) := Ev.bind hg2 (Ev.pos rfl (Ev.bind er (Ev.pos c40 (Ev.now _))))
      have s0 := qSame_self [] (by simp)
      have fin : Ev (fun k => laws_FnAddedBackwards.j0 k l1 D b [] false (carS b (zD D) D.length) true v false) true := by
        refine Ev.step (fun k => by rw [laws_FnAddedBackwards.j0]) ?_
        refine Ev.neg (by simp) (Ev.pos rfl (Ev.pos hcl' (Ev.bind eq (Ev.neg hqv (Ev.bind (qBack_ev D (by omega)) (Ev.neg (by simp) (j3_ev l1 hl1)))))))
      exact Ev.bind a1 (Ev.bind a2 (Ev.bind a3 (Ev.bind a4 (Ev.bind v1 (Ev.bind v2 (Ev.bind r1 (Ev.bind r2 (Ev.neg ff (Ev.bind s0 (Ev.pos rfl (Ev.neg tt (Ev.bind s1 (Ev.pos rfl (Ev.neg tt (Ev.neg vv (Ev.neg tt (Ev.bind s2 (Ev.pos rfl (Ev.neg tt (Ev.neg tt (Ev.neg (by simp) fin)))))))))))))))))))))
    · have a1 : Ev (fun k => impl_AddReversed.f k D b) (sumS b (zD D) D.length, true) := Ev.pure_bind (isLong_f D b) (Ev.pos hg (Ev.bind es (Ev.neg c40 (Ev.now _))))
      have a2 : Ev (fun k => spec_AddReversed.f k D b) (sumS b (zD D) D.length, true) := Ev.bind hg2 (Ev.pos rfl (Ev.bind er (Ev.neg c40 (Ev.now _))))
      have s0 := qSame_self (sumS b (zD D) D.length) (by omega)
      have hS : ((sumS b (zD D) D.length).length : Int) ≤ 40 := by omega
      have hlS : ((sumS b (zD D) D.length).length : Int) = wrap64 ((D.length : Int) + cr b (zD D) D.length) := by
        rw [w64 (by omega) (by omega)]
        by_cases c : cr b (zD D) D.length > 0
        · rw [if_pos c] at hsl; omega
        · rw [if_neg c] at hsl; omega
      have hl := l0_ev l1 D b hl1 G hS v hv D.length 0 (by omega)
      have fin : Ev (fun k => laws_FnAddedBackwards.j0 k l1 D b (sumS b (zD D) D.length) true (carS b (zD D) D.length) true v (!true)) true := by
        refine Ev.step (fun k => by rw [laws_FnAddedBackwards.j0]) ?_
        rw [hw, hover]
        refine Ev.neg (by simp) (Ev.pos rfl (Ev.pos hcl' (Ev.bind eq (Ev.neg hqv (Ev.bind (qBack_ev D (by omega)) (Ev.pos rfl (Ev.pos (by omega) (Ev.pos (by omega) (Ev.pos hlS ?_)))))))))
        rw [show ((D.length - 1 : Nat) : Int) = (D.length : Int) - 1 - ((0 : Nat) : Int) by omega]
        exact hl
      exact Ev.bind a1 (Ev.bind a2 (Ev.bind a3 (Ev.bind a4 (Ev.bind v1 (Ev.bind v2 (Ev.bind r1 (Ev.bind r2 (Ev.neg tt (Ev.bind s0 (Ev.pos rfl (Ev.neg tt (Ev.bind s1 (Ev.pos rfl (Ev.neg tt (Ev.neg vv (Ev.neg tt (Ev.bind s2 (Ev.pos rfl (Ev.neg tt (Ev.neg tt (Ev.pos rfl fin)))))))))))))))))))))

end Go.Proofs.Ythamjbfdhghbbaa.Pure
