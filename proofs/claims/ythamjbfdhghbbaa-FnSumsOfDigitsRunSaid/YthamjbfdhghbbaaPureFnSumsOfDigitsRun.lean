/- Sum runs end at what remainders tell; least numbers of a sum persistence have it, and none before; for all inputs. -/
import Derived.Test.YthamjbfdhghbbaaPFnSumsOfDigitsRunx
namespace Go.Proofs.Ythamjbfdhghbbaa.Pure
open Go.RowKit Go.Proofs.Ythamjbfdhghbbaa.PFnSumsOfDigitsRun Go.Proofs.YthamjbfdhghbbaaW.PrintWords Go.Proofs.YthamjbfdhghbbaaW.PrintLast
set_option linter.unusedVariables false
set_option linter.unusedSimpArgs false
/-! ### words on rounds and on int's wraps -/
theorem Ev.pos {α : Type} {c : Prop} [Decidable c] {g f : Nat → Option α} {r : α} (hc : c) (h : Ev g r) : Ev (fun k => if c then g k else f k) r := Ev.congr (fun _ => if_pos hc) h
theorem Ev.neg {α : Type} {c : Prop} [Decidable c] {g f : Nat → Option α} {r : α} (hc : ¬ c) (h : Ev f r) : Ev (fun k => if c then g k else f k) r := Ev.congr (fun _ => if_neg hc) h
theorem Ev.some {α : Type} {a r : α} (h : a = r) : Ev (fun _ => Option.some a) r := h ▸ Ev.now a
theorem Ev.bind1 {α β : Type} {g : Nat → Option α} {f : Nat → α → Option β} {a : α} {r : β} (h : Ev g a) (k : Ev (fun n => f n a) r) : Ev (fun n => (g n).bind (f n)) r := Ev.bind h k
theorem Ev.pure_bind {α β : Type} {o : Option α} {f : Nat → α → Option β} {a : α} {r : β} (h : o = Option.some a) (k : Ev (fun n => f n a) r) : Ev (fun n => o.bind (f n)) r := by
  subst h; exact k
theorem Ev.two {α β : Type} {g : Nat → Option α} {f : Nat → Option β} {a : α} {b : β} (h : Ev g a) (k : Ev f b) : ∃ n, g n = Option.some a ∧ f n = Option.some b := by
  obtain ⟨K, h⟩ := h
  obtain ⟨K', k⟩ := k
  exact ⟨max K K', h _ (by omega), k _ (by omega)⟩
theorem w64 {n : Int} (h0 : -9223372036854775808 ≤ n) (h1 : n < 9223372036854775808) : wrap64 n = n := by unfold wrap64; omega
theorem w64_emod (n : Int) : wrap64 n % 18446744073709551616 = n % 18446744073709551616 := by unfold wrap64; omega
theorem w64_congr {a b : Int} (h : a % 18446744073709551616 = b % 18446744073709551616) : wrap64 a = wrap64 b := by unfold wrap64; omega
theorem w64_lo (n : Int) : -9223372036854775808 ≤ wrap64 n := by unfold wrap64; omega
theorem w64_hi (n : Int) : wrap64 n < 9223372036854775808 := by unfold wrap64; omega
theorem int_wf {a : Int} (h : (Lit.int .i64 a).wf = true) : -9223372036854775808 ≤ a ∧ a ≤ 9223372036854775807 := by
  simp [Lit.wf] at h
  exact ⟨h.1, h.2⟩

/-! ### first places in lists -/
theorem rd_get {xs : List Int} {i : Nat} (h : i < xs.length) : rd xs (i : Int) = xs[i] := by
  simp [rd, List.getD_eq_getElem?_getD, List.getElem?_eq_getElem h]
/-- The first place of s, or -1. -/
def ix (l : List Int) (s : Int) : Int := match l.findIdx? (fun x => x == s) with | some i => (i : Int) | none => -1
theorem ix_some {l : List Int} {s : Int} {i : Nat} (h : i < l.length) (he : l[i] = s) (hn : ∀ x ∈ l.take i, x ≠ s) : ix l s = i := by
  unfold ix
  rw [List.findIdx?_eq_some_iff_getElem.2 ⟨h, by simpa using he, fun j hj => ?_⟩]
  have := hn (l[j]'(by omega)) (List.mem_take_iff_getElem.2 ⟨j, by omega, rfl⟩)
  simpa using this
theorem ix_none {l : List Int} {s : Int} (hn : ∀ x ∈ l, x ≠ s) : ix l s = -1 := by
  unfold ix
  rw [List.findIdx?_eq_none_iff.2 (fun x hx => by simpa using hn x hx)]
theorem ix_mem {l : List Int} {s : Int} (h : s ∈ l) : ∃ i : Nat, ix l s = i ∧ ∃ hl : i < l.length, l[i] = s ∧ ∀ j (hj : j < i), l[j]'(by omega) ≠ s := by
  unfold ix
  cases hf : l.findIdx? (fun x => x == s) with
  | none =>
    have := List.findIdx?_eq_none_iff.1 hf s h
    simp at this
  | some i =>
    obtain ⟨hl, he, hn⟩ := List.findIdx?_eq_some_iff_getElem.1 hf
    exact ⟨i, rfl, hl, by simpa using he, fun j hj => by simpa using hn j hj⟩
theorem take_ne_succ {l : List Int} {s : Int} {i : Nat} (h : i < l.length) (hne : ¬ l[i] = s) (hn : ∀ x ∈ l.take i, x ≠ s) : ∀ x ∈ l.take (i + 1), x ≠ s := by
  intro x hx
  rw [List.take_succ_eq_append_getElem h, List.mem_append] at hx
  rcases hx with hx | hx
  · exact hn x hx
  · simp at hx; rw [hx]; exact hne

theorem ix_range {l : List Int} {s : Int} : ix l s = -1 ∧ s ∉ l ∨ 0 ≤ ix l s ∧ ix l s < l.length ∧ s ∈ l := by
  by_cases h : s ∈ l
  · obtain ⟨i, e, hl, _⟩ := ix_mem h
    rw [e]; exact .inr ⟨by omega, by omega, h⟩
  · exact .inl ⟨ix_none (fun x hx he => h (he ▸ hx)), h⟩

/-! ### words on lists by their numbers -/
theorem rd_q (xs : List Int) (i : Nat) : rd xs (i : Int) = (xs[i]?).getD 0 := by simp [rd, List.getD_eq_getElem?_getD]
theorem rd_el {xs : List Int} {i : Nat} (h : i < xs.length) : rd xs (i : Int) = xs[i] := by rw [rd_q, List.getElem?_eq_getElem h]; rfl
theorem rd_mem {xs : List Int} {i : Nat} (h : i < xs.length) : rd xs (i : Int) ∈ xs := by rw [rd_el h]; exact List.getElem_mem h
theorem rd_ext {a b : List Int} (hl : a.length = b.length) (h : ∀ p < a.length, rd a (p : Int) = rd b (p : Int)) : a = b := by
  apply List.ext_getElem hl
  intro p h1 h2
  rw [← rd_el h1, ← rd_el h2]
  exact h p h1
theorem rd_set (xs : List Int) (i p : Nat) (v : Int) (hi : i < xs.length) : rd (xs.set i v) (p : Int) = if p = i then v else rd xs (p : Int) := by
  rw [rd_q, rd_q, List.getElem?_set]
  by_cases c : p = i
  · subst c; rw [if_pos rfl, if_pos rfl, if_pos hi]; rfl
  · rw [if_neg c, if_neg (fun h => c h.symm)]
theorem rd_rev {xs : List Int} {p : Nat} (h : p < xs.length) : rd xs.reverse (p : Int) = rd xs ((xs.length - 1 - p : Nat) : Int) := by
  rw [rd_el (by simpa using h), rd_el (by omega), List.getElem_reverse]
theorem rd_tab (f : Nat → Int) {n p : Nat} (h : p < n) : rd ((List.range n).map f) (p : Int) = f p := by
  rw [rd_el (by simpa using h)]; simp
theorem rd_cons0 (x : Int) (t : List Int) : rd (x :: t) 0 = x := rfl
theorem rd_append_left {a b : List Int} {p : Nat} (h : p < a.length) : rd (a ++ b) (p : Int) = rd a (p : Int) := by rw [rd_q, rd_q, List.getElem?_append_left h]
theorem rd_append_right {a b : List Int} {p : Nat} : rd (a ++ b) ((a.length + p : Nat) : Int) = rd b (p : Int) := by rw [rd_q, rd_q, List.getElem?_append_right (by omega)]; congr 2; omega
theorem rd_drop (a : List Int) (i p : Nat) : rd (a.drop i) (p : Int) = rd a ((i + p : Nat) : Int) := by rw [rd_q, rd_q, List.getElem?_drop]
theorem tab_succ (f : Nat → Int) (n : Nat) : (List.range (n + 1)).map f = (List.range n).map f ++ [f n] := by rw [List.range_succ, List.map_append]; rfl
/-! #### loops that compare -/
section
variable (L : Nat → List Int → List Int → Int → Int → Option Bool)
  (h0 : ∀ k x0 x1 x12 x13, L (k + 1) x0 x1 x12 x13 = if x13 < x12 then (if 0 ≤ x13 then (if x13 < (x0.length : Int) then (if x13 < (x1.length : Int) then (if (rd x0 x13) = (rd x1 x13) then (L k x0 x1 x12 (wrap64 (x13 + 1))) else (some false)) else (none)) else (none)) else (none)) else (some true))
include h0
theorem same_l0 (a b : List Int) (hl : a.length = b.length) (hb : (a.length : Int) ≤ 4611686018427387904) : Ev (fun k => L k a b (a.length : Int) 0) (decide (a = b)) := by
  have key : ∀ (d i : Nat), i + d = a.length → (∀ p < i, rd a (p : Int) = rd b (p : Int)) → Ev (fun k => L k a b (a.length : Int) (i : Int)) (decide (a = b)) := by
    intro d
    induction d with
    | zero =>
      intro i hi hp
      rw [decide_eq_true (rd_ext hl (fun p h => hp p (by omega)))]
      exact Ev.step (fun k => h0 k _ _ _ _) (Ev.neg (by omega) (Ev.now _))
    | succ d ih =>
      intro i hi hp
      have hw : wrap64 ((i : Int) + 1) = ((i + 1 : Nat) : Int) := by rw [w64 (by omega) (by omega)]; omega
      refine Ev.step (fun k => h0 k _ _ _ _) (Ev.pos (by omega) (Ev.pos (by omega) (Ev.pos (by omega) (Ev.pos (by omega) ?_))))
      by_cases c : rd a (i : Int) = rd b (i : Int)
      · refine Ev.pos c ?_
        rw [hw]
        exact ih (i + 1) (by omega) (fun p h => by
          by_cases e : p = i
          · rw [e]; exact c
          · exact hp p (by omega))
      · rw [decide_eq_false (fun e => c (by rw [e]))]
        exact Ev.neg c (Ev.now _)
  exact key a.length 0 (by omega) (fun p h => by omega)
end
section
variable (L : Nat → List Int → List Int → Int → Option (List Int))
  (h0 : ∀ k x0 x3 x4, L (k + 1) x0 x3 x4 = if x4 ≥ 0 then (if 0 ≤ x4 then (if x4 < (x0.length : Int) then (if x3.length < 17592186044416 then (L k x0 (x3 ++ [rd x0 x4]) (wrap64 (x4 - 1))) else (none)) else (none)) else (none)) else (some x3))
include h0
theorem back_l0 (a : List Int) (hb : (a.length : Int) ≤ 1048576) : Ev (fun k => L k a [] (wrap64 ((a.length : Int) - 1))) a.reverse := by
  have key : ∀ (i : Nat) (acc : List Int), i ≤ a.length → acc.length + i = a.length → acc = (a.drop i).reverse → Ev (fun k => L k a acc ((i : Int) - 1)) a.reverse := by
    intro i
    induction i with
    | zero =>
      intro acc hi hl he
      rw [he, List.drop_zero]
      exact Ev.step (fun k => h0 k _ _ _) (Ev.neg (by omega) (Ev.now _))
    | succ i ih =>
      intro acc hi hl he
      have e : ((i + 1 : Nat) : Int) - 1 = (i : Int) := by omega
      have hw : wrap64 ((i : Int) - 1) = (i : Int) - 1 := w64 (by omega) (by omega)
      rw [e]
      refine Ev.step (fun k => h0 k _ _ _) (Ev.pos (by omega) (Ev.pos (by omega) (Ev.pos (by omega) (Ev.pos (by omega) ?_))))
      rw [hw]
      refine ih (acc ++ [rd a (i : Int)]) (by omega) (by simp; omega) ?_
      rw [he, List.drop_eq_getElem_cons (show i < a.length by omega), List.reverse_cons, rd_el (by omega)]
  have hw : wrap64 ((a.length : Int) - 1) = (a.length : Int) - 1 := w64 (by omega) (by omega)
  rw [hw]
  exact key a.length [] (by omega) (by simp) (by simp)
end

/-! ### bounds -/
theorem in_f (a b c : Int) : impl_in.f a b c = spec_l1In.f a b c := rfl
theorem l1In_f (a b c : Int) : spec_l1In.f a b c = some (decide (b ≤ a ∧ a ≤ c)) := by
  unfold spec_l1In.f
  by_cases h : b ≤ a
  · rw [if_pos h]; simp [h]
  · rw [if_neg h]; simp [h]

/-! ### a list's rest -/
theorem drop_rd {xs : List Int} {i : Nat} {y : Int} {r : List Int} (h : xs.drop i = y :: r) : rd xs (i : Int) = y := by
  have := congrArg (·[0]?) h
  rw [rd_q]
  simp at this
  rw [this]; rfl
theorem drop_tail {xs : List Int} {i : Nat} {y : Int} {r : List Int} (h : xs.drop i = y :: r) : xs.drop (i + 1) = r := by
  rw [← List.tail_drop, h]; rfl
theorem w64_succ {d : Nat} (h : d < 4611686018427387904) : wrap64 ((d : Int) + 1) = ((d + 1 : Nat) : Int) := by rw [w64 (by omega) (by omega)]; omega
theorem w64_sub {a d : Nat} (h : d ≤ a) (ha : a < 4611686018427387904) : wrap64 ((a : Int) - (d : Int)) = ((a - d : Nat) : Int) := by rw [w64 (by omega) (by omega)]; omega

/-! ### slices.Reverse -/
theorem reverse_ev (l : List Int) (hb : (l.length : Int) ≤ 1048576) : Ev (fun k => slices_Reverse_int_int.f k l) l.reverse := by
  have key : ∀ (d t : Nat) (x : List Int), l.length ≤ 2 * t + d → t ≤ l.length → x.length = l.length → (∀ p < l.length, rd x (p : Int) = if p < t ∨ l.length - t ≤ p then rd l ((l.length - 1 - p : Nat) : Int) else rd l (p : Int)) →
      Ev (fun k => slices_Reverse_int_int.l0 k x (t : Int) ((l.length : Int) - 1 - t)) l.reverse := by
    intro d
    induction d with
    | zero =>
      intro t x h1 h2 h3 h4
      have he : x = l.reverse := by
        apply rd_ext (by simp [h3])
        intro p hp
        rw [h4 p (by omega), rd_rev (by omega), if_pos (by omega)]
      rw [← he]
      exact Ev.step (fun k => by rw [slices_Reverse_int_int.l0]) (Ev.neg (by omega) (Ev.now _))
    | succ d ih =>
      intro t x h1 h2 h3 h4
      by_cases c : (t : Int) < (l.length : Int) - 1 - t
      · have hw1 : wrap64 ((t : Int) + 1) = ((t + 1 : Nat) : Int) := by rw [w64 (by omega) (by omega)]; omega
        have hw2 : wrap64 ((l.length : Int) - 1 - t - 1) = (l.length : Int) - 1 - ((t + 1 : Nat) : Int) := by rw [w64 (by omega) (by omega)]; omega
        have hj : (l.length : Int) - 1 - t = ((l.length - 1 - t : Nat) : Int) := by omega
        refine Ev.step (fun k => by rw [slices_Reverse_int_int.l0]) (Ev.pos c (Ev.pos (by omega) (Ev.pos (by omega) (Ev.pos (by omega) (Ev.pos (by omega) ?_)))))
        rw [hw1, hw2, hj, Int.toNat_natCast, Int.toNat_natCast]
        refine ih (t + 1) _ (by omega) (by omega) (by simp [h3]) (fun p hp => ?_)
        rw [rd_set _ _ _ _ (by simp [h3]; omega), rd_set _ _ _ _ (by omega), h4 p hp, h4 t (by omega), h4 (l.length - 1 - t) (by omega)]
        by_cases e1 : p = l.length - 1 - t
        · rw [if_pos e1, if_neg (by omega), if_pos (by omega), e1]; congr 1; omega
        · rw [if_neg e1]
          by_cases e2 : p = t
          · rw [if_pos e2, if_neg (by omega), if_pos (by omega), e2]
          · rw [if_neg e2]
            by_cases e3 : p < t ∨ l.length - t ≤ p
            · rw [if_pos e3, if_pos (by omega)]
            · rw [if_neg e3, if_neg (by omega)]
      · have he : x = l.reverse := by
          apply rd_ext (by simp [h3])
          intro p hp
          rw [h4 p (by omega), rd_rev (by omega)]
          by_cases e : p < t ∨ l.length - t ≤ p
          · rw [if_pos e]
          · rw [if_neg e]; congr 1; omega
        rw [← he]
        exact Ev.step (fun k => by rw [slices_Reverse_int_int.l0]) (Ev.neg c (Ev.now _))
  unfold slices_Reverse_int_int.f
  have hw : wrap64 ((l.length : Int) - 1) = (l.length : Int) - 1 := w64 (by omega) (by omega)
  rw [hw]
  have := key l.length 0 l (by omega) (by omega) rfl (fun p hp => by rw [if_neg (by omega)])
  simpa using this

/-! ### the cursor's draws: always there, and within their bounds -/
theorem u64_wraps (n : Int) (h0 : 0 ≤ n) (h1 : n < 2 ^ 64) : IntKind.u64.wrap n = n := by simp [IntKind.wrap, IntKind.bits, IntKind.signed]; omega
theorem u64_range (n : Int) : 0 ≤ IntKind.u64.wrap n ∧ IntKind.u64.wrap n < 18446744073709551616 := by
  simp [IntKind.wrap, IntKind.bits, IntKind.signed]
  omega
theorem and255 (x : Int) (h0 : 0 ≤ x) (h1 : x < 18446744073709551616) : Go.bits .and .u64 x 255 = x % 256 :=
  Go.bits_mask .u64 64 (by decide) u64_wraps 8 (by decide) x h0 (by simpa using h1)
theorem top255 (n : Int) : 0 ≤ wrap64 (Go.bits .and .u64 (IntKind.u64.wrap n / 1099511627776) 255) ∧ wrap64 (Go.bits .and .u64 (IntKind.u64.wrap n / 1099511627776) 255) ≤ 255 := by
  have h := u64_range n
  generalize IntKind.u64.wrap n = m at h
  rw [and255 _ (by omega) (by omega), w64 (by omega) (by omega)]
  omega
def Bytes (l : List Int) : Prop := ∀ i : Nat, 0 ≤ rd l (i : Int) ∧ rd l (i : Int) ≤ 255
theorem Bytes.of {l : List Int} (h : ∀ x ∈ l, (Lit.int .u8 x).wf = true) : Bytes l := by
  intro i
  have : ∀ x ∈ l, 0 ≤ x ∧ x ≤ 255 := fun x hx => by
    have := h x hx
    simp [Lit.wf] at this
    exact ⟨this.1, this.2⟩
  by_cases c : i < l.length
  · have e : rd l (i : Int) = l[i] := by simp [rd, List.getD_eq_getElem?_getD, c]
    rw [e]; exact this _ (List.getElem_mem c)
  · have e : rd l (i : Int) = 0 := by simp [rd, List.getD_eq_getElem?_getD, c]
    rw [e]; omega
theorem next_ev (l : List Int) (hl : Bytes l) (p s : Int) (hp : 0 ≤ p ∧ p ≤ 4611686018427387904) : ∃ v t, spec_l1Cur_next.f l p s = some (v, p + 1, t) ∧ 0 ≤ v ∧ v ≤ 255 := by
  have hw : wrap64 (p + 1) = p + 1 := w64 (by omega) (by omega)
  unfold spec_l1Cur_next.f
  rw [hw]
  by_cases c : p < (l.length : Int)
  · rw [if_pos c, if_pos hp.1, if_pos (by omega)]
    have hb := hl p.toNat
    rw [show ((p.toNat : Nat) : Int) = p by omega] at hb
    refine ⟨_, _, rfl, ?_⟩
    rw [w64 (by omega) (by omega)]
    exact hb
  · rw [if_neg c, if_neg (by omega)]
    exact ⟨_, _, rfl, top255 _⟩
/-- What a draw below n gives. -/
structure Drew (p n : Int) (v q : Int) : Prop where
  lo : 0 ≤ v
  hi : 1 < n → v < n
  one : n ≤ 1 → v = 0
  from_ : p ≤ q
  to_ : q ≤ p + 2
theorem pick_ev (l : List Int) (hl : Bytes l) (p s n : Int) (hp : 0 ≤ p ∧ p ≤ 4611686018427387000) : ∃ v q t, spec_l1Cur_pick.f l p s n = some (v, q, t) ∧ Drew p n v q := by
  unfold spec_l1Cur_pick.f
  by_cases c : n ≤ 1
  · rw [if_pos c]
    exact ⟨0, p, s, rfl, ⟨by omega, by omega, fun _ => rfl, by omega, by omega⟩⟩
  · rw [if_neg c]
    obtain ⟨v, t, e, h0, h1⟩ := next_ev l hl p s (by omega)
    rw [e, Option.bind_some]
    by_cases c2 : n > 200
    · rw [if_pos c2]
      obtain ⟨v2, t2, e2, g0, g1⟩ := next_ev l hl (p + 1) t (by omega)
      rw [e2, Option.bind_some, if_neg (by omega)]
      refine ⟨_, _, _, rfl, ?_⟩
      rw [w64 (n := v * 256) (by omega) (by omega), w64 (by omega) (by omega)]
      exact ⟨Int.tmod_nonneg _ (by omega), fun _ => Int.tmod_lt_of_pos _ (by omega), fun h => absurd h c, by dsimp only; omega, by dsimp only; omega⟩
    · rw [if_neg c2, if_neg (by omega)]
      exact ⟨_, _, _, rfl, ⟨Int.tmod_nonneg _ h0, fun _ => Int.tmod_lt_of_pos _ (by omega), fun h => absurd h c, by dsimp only; omega, by dsimp only; omega⟩⟩
theorem among_ev (l : List Int) (hl : Bytes l) (p s : Int) (hp : 0 ≤ p ∧ p ≤ 4611686018427387000) (xs : List Int) (h : 0 < xs.length) : ∃ v q t, spec_l1Cur_among.f l p s xs = some (v, q, t) ∧ v ∈ xs ∧ p ≤ q ∧ q ≤ p + 2 := by
  obtain ⟨v, q, t, e, d⟩ := pick_ev l hl p s xs.length hp
  have hlt : v < (xs.length : Int) := by
    by_cases c : 1 < (xs.length : Int)
    · exact d.hi c
    · have := d.one (by omega); omega
  have h0 := d.lo
  unfold spec_l1Cur_among.f
  rw [e, Option.bind_some, if_pos h0, if_pos hlt]
  refine ⟨_, _, _, rfl, ?_, d.from_, d.to_⟩
  have e : rd xs v = xs[v.toNat]'(by omega) := by simp [rd, List.getD_eq_getElem?_getD, show v.toNat < xs.length by omega]
  rw [e]
  exact List.getElem_mem _
theorem one_ev (l : List Int) (hl : Bytes l) (p s n : Int) (hp : 0 ≤ p ∧ p ≤ 4611686018427387000) : ∃ b q t, spec_l1Cur_one.f l p s n = some (b, q, t) ∧ p ≤ q ∧ q ≤ p + 2 := by
  obtain ⟨v, q, t, e, d⟩ := pick_ev l hl p s n hp
  unfold spec_l1Cur_one.f
  rw [e, Option.bind_some]
  exact ⟨_, _, _, rfl, d.from_, d.to_⟩
theorem big_f (a b : List Int) : laws_big.f a b = some (decide (1048576 < (a.length : Int) ∨ 1048576 < (a.length : Int) + (b.length : Int))) := by
  unfold laws_big.f
  by_cases c : (a.length : Int) > 1048576
  · rw [if_pos c, decide_eq_true (.inl c)]
  · rw [if_neg c, w64 (by omega) (by omega)]
    congr 1
    apply decide_eq_decide.2
    omega

/-! ### sums of lists -/
def lsum : List Int → Int
  | [] => 0
  | d :: t => d + lsum t
theorem lsum_append : ∀ (l m : List Int), lsum (l ++ m) = lsum l + lsum m := by
  intro l
  induction l with
  | nil => intro m; simp [lsum]
  | cons d t ih => intro m; simp only [List.cons_append, lsum, ih]; omega
theorem lsum_reverse : ∀ (l : List Int), lsum l.reverse = lsum l := by
  intro l
  induction l with
  | nil => rfl
  | cons d t ih => rw [List.reverse_cons, lsum_append, ih]; simp [lsum]; omega
theorem lsum_nonneg : ∀ (l : List Int), (∀ x ∈ l, 0 ≤ x) → 0 ≤ lsum l := by
  intro l
  induction l with
  | nil => intro _; simp [lsum]
  | cons d t ih =>
    intro h
    have := ih (fun x hx => h x (List.mem_cons_of_mem _ hx))
    have := h d List.mem_cons_self
    simp only [lsum]; omega
theorem lsum_le : ∀ (l : List Int) (m : Int), (∀ x ∈ l, x ≤ m) → lsum l ≤ l.length * m := by
  intro l
  induction l with
  | nil => intro m _; simp [lsum]
  | cons d t ih =>
    intro m h
    have h1 := ih m (fun x hx => h x (List.mem_cons_of_mem _ hx))
    have h2 := h d List.mem_cons_self
    simp only [lsum, List.length_cons]
    rw [show ((t.length + 1 : Nat) : Int) * m = t.length * m + m by rw [Int.natCast_add, Int.add_mul]; simp]
    omega

/-! #### loops that gather -/
section
variable {β : Type} (L : Nat → Int → List Int → Int → Int → Option β) (op : Int → Int → Int) (E : Nat → Int → Option β)
  (h0 : ∀ k a xs n i, L (k + 1) a xs n i = if i < n then (if 0 ≤ i then (if i < (xs.length : Int) then (L k (op a (rd xs i)) xs n (wrap64 (i + 1))) else (none)) else (none)) else (E k a))
include h0
theorem foldE_l0 (xs : List Int) (a : Int) (R : β) (hb : (xs.length : Int) ≤ 4611686018427387904) (hE : Ev (fun k => E k (xs.foldl op a)) R) : Ev (fun k => L k a xs (xs.length : Int) 0) R := by
  have key : ∀ (r : List Int) (i : Nat) (a : Int), xs.drop i = r → i ≤ xs.length → Ev (fun k => E k (r.foldl op a)) R → Ev (fun k => L k a xs (xs.length : Int) (i : Int)) R := by
    intro r
    induction r with
    | nil =>
      intro i a he hi hE
      have : xs.length ≤ i := List.drop_eq_nil_iff.1 he
      exact Ev.step (fun k => h0 k _ _ _ _) (Ev.neg (by omega) hE)
    | cons y r ih =>
      intro i a he hi hE
      have hlt : i < xs.length := by
        rcases Nat.lt_or_ge i xs.length with h | h
        · exact h
        · rw [List.drop_eq_nil_of_le h] at he; cases he
      have hw : wrap64 ((i : Int) + 1) = ((i + 1 : Nat) : Int) := by rw [w64 (by omega) (by omega)]; omega
      refine Ev.step (fun k => h0 k _ _ _ _) (Ev.pos (by omega) (Ev.pos (by omega) (Ev.pos (by omega) ?_)))
      rw [hw, drop_rd he]
      exact ih (i + 1) _ (drop_tail he) (by omega) hE
  exact key xs 0 a rfl (by omega) hE
end
theorem fold_l0 (L : Nat → Int → List Int → Int → Int → Option Int) (op : Int → Int → Int)
    (h0 : ∀ k a xs n i, L (k + 1) a xs n i = if i < n then (if 0 ≤ i then (if i < (xs.length : Int) then (L k (op a (rd xs i)) xs n (wrap64 (i + 1))) else (none)) else (none)) else (some a))
    (xs : List Int) (a : Int) (hb : (xs.length : Int) ≤ 4611686018427387904) : Ev (fun k => L k a xs (xs.length : Int) 0) (xs.foldl op a) :=
  foldE_l0 L op (fun _ a => some a) h0 xs a _ hb (Ev.now _)
theorem foldw_sum : ∀ (l : List Int) (a : Int), 0 ≤ a → (∀ x ∈ l, 0 ≤ x) → a + lsum l < 9223372036854775808 → l.foldl (fun a d => wrap64 (a + d)) a = a + lsum l := by
  intro l
  induction l with
  | nil => intro a _ _ _; simp [lsum]
  | cons d t ih =>
    intro a h0 h h1
    have hd := h d List.mem_cons_self
    have ht := lsum_nonneg t (fun x hx => h x (List.mem_cons_of_mem _ hx))
    simp only [lsum] at h1
    simp only [List.foldl_cons, lsum]
    rw [w64 (by omega) (by omega), ih (a + d) (by omega) (fun x hx => h x (List.mem_cons_of_mem _ hx)) (by omega)]
    omega
theorem lsum_set : ∀ (c : List Int) (i : Nat) (v : Int), i < c.length → lsum (c.set i v) = lsum c - rd c (i : Int) + v := by
  intro c
  induction c with
  | nil => intro i v h; cases h
  | cons d t ih =>
    intro i v h
    cases i with
    | zero => simp [lsum, rd]; omega
    | succ i =>
      have := ih i v (by simpa using h)
      rw [rd_el (by simpa using h)] at this
      rw [rd_el h]
      simp only [List.set_cons_succ, lsum, this, List.getElem_cons_succ]
      omega
theorem lsum_mem : ∀ (c : List Int), (∀ x ∈ c, 0 ≤ x) → ∀ x ∈ c, x ≤ lsum c := by
  intro c
  induction c with
  | nil => intro _ x hx; cases hx
  | cons d t ih =>
    intro h x hx
    have h1 := lsum_nonneg t (fun x hx => h x (List.mem_cons_of_mem _ hx))
    have h2 := h d List.mem_cons_self
    simp only [lsum]
    rcases List.mem_cons.1 hx with rfl | hx
    · omega
    · have := ih (fun x hx => h x (List.mem_cons_of_mem _ hx)) x hx
      omega
theorem lsum_zeros : ∀ n, lsum (List.replicate n 0) = 0 := by
  intro n
  induction n with
  | zero => rfl
  | succ n ih => rw [List.replicate_succ]; simp only [lsum]; omega

/-! ### digits of numbers -/
/-- The digits of n, the last one first; none for 0. -/
def lowd (b : Int) : Nat → Int → List Int
  | 0, _ => []
  | f + 1, n => if n ≤ 0 then [] else (n % b) :: lowd b f (n / b)
/-- The number with digits, the last one first. -/
def lowv (b : Int) : List Int → Int
  | [] => 0
  | d :: t => d + b * lowv b t
/-- The digits of n, the first one first. -/
def dgs (b n : Int) : List Int := if n = 0 then [0] else (lowd b 41 n).reverse
/-- The number with digits, the first one first, behind what stands ahead of them. -/
def hval (b : Int) : Int → List Int → Int
  | a, [] => a
  | a, d :: t => hval b (a * b + d) t
theorem div_lt_pow {b n : Int} {f : Nat} (hb : 2 ≤ b) (h0 : 0 ≤ n) (h : n < 2 ^ (f + 1)) : 0 ≤ n / b ∧ n / b < 2 ^ f := by
  have h1 : 0 ≤ n / b := Int.ediv_nonneg h0 (by omega)
  refine ⟨h1, ?_⟩
  apply Int.ediv_lt_of_lt_mul (by omega)
  have : (2 : Int) ^ (f + 1) = 2 ^ f * 2 := Int.pow_succ _ _
  have hp : (0 : Int) < 2 ^ f := Int.pow_pos (by omega)
  have : (2 : Int) ^ f * 2 ≤ 2 ^ f * b := Int.mul_le_mul_of_nonneg_left hb (by omega)
  omega
theorem lowd_zero (b : Int) (f : Nat) {n : Int} (h : n ≤ 0) : lowd b f n = [] := by
  cases f with
  | zero => rfl
  | succ f => simp [lowd, h]
theorem lowd_pos (b : Int) (f : Nat) {n : Int} (h : ¬ n ≤ 0) : lowd b (f + 1) n = (n % b) :: lowd b f (n / b) := by simp [lowd, h]
theorem lowd_fuel {b : Int} (hb : 2 ≤ b) : ∀ (f g : Nat) (n : Int), 0 ≤ n → n < 2 ^ f → n < 2 ^ g → lowd b f n = lowd b g n := by
  intro f
  induction f with
  | zero => intro g n h0 h1 _; rw [lowd_zero b 0 (by simp at h1; omega), lowd_zero b g (by simp at h1; omega)]
  | succ f ih =>
    intro g n h0 h1 h2
    by_cases c : n ≤ 0
    · rw [lowd_zero b _ c, lowd_zero b _ c]
    · cases g with
      | zero => simp at h2; omega
      | succ g =>
        rw [lowd_pos b f c, lowd_pos b g c, ih g _ (div_lt_pow hb h0 h1).1 (div_lt_pow hb h0 h1).2 (div_lt_pow hb h0 h2).2]
theorem lowv_lowd {b : Int} (hb : 2 ≤ b) : ∀ (f : Nat) (n : Int), 0 ≤ n → n < 2 ^ f → lowv b (lowd b f n) = n := by
  intro f
  induction f with
  | zero => intro n h0 h1; simp at h1; rw [lowd_zero b 0 (by omega)]; simp [lowv]; omega
  | succ f ih =>
    intro n h0 h1
    by_cases c : n ≤ 0
    · rw [lowd_zero b _ c]; simp [lowv]; omega
    · rw [lowd_pos b f c]
      simp only [lowv]
      rw [ih _ (div_lt_pow hb h0 h1).1 (div_lt_pow hb h0 h1).2]
      exact Int.emod_add_mul_ediv n b
theorem lowd_range {b : Int} (hb : 2 ≤ b) : ∀ (f : Nat) (n : Int), ∀ x ∈ lowd b f n, 0 ≤ x ∧ x < b := by
  intro f
  induction f with
  | zero => intro n x hx; simp [lowd] at hx
  | succ f ih =>
    intro n x hx
    by_cases c : n ≤ 0
    · rw [lowd_zero b _ c] at hx; cases hx
    · rw [lowd_pos b f c] at hx
      rcases List.mem_cons.1 hx with rfl | hx
      · exact ⟨Int.emod_nonneg _ (by omega), Int.emod_lt_of_pos _ (by omega)⟩
      · exact ih _ x hx
theorem lowd_length {b : Int} : ∀ (f : Nat) (n : Int), (lowd b f n).length ≤ f := by
  intro f
  induction f with
  | zero => intro n; simp [lowd]
  | succ f ih =>
    intro n
    by_cases c : n ≤ 0
    · rw [lowd_zero b _ c]; simp
    · rw [lowd_pos b f c]; simp; exact ih _
theorem lowd_ne_nil {b : Int} (f : Nat) {n : Int} (h : 0 < n) : lowd b (f + 1) n ≠ [] := by rw [lowd_pos b f (by omega)]; simp
/-- The first digit (that is the last one here) is not 0. -/
theorem lowd_last {b : Int} (hb : 2 ≤ b) : ∀ (f : Nat) (n : Int), 0 ≤ n → n < 2 ^ f → ∀ x, (lowd b f n).getLast? = some x → 0 < x := by
  intro f
  induction f with
  | zero => intro n _ _ x hx; simp [lowd] at hx
  | succ f ih =>
    intro n h0 h1 x hx
    by_cases c : n ≤ 0
    · rw [lowd_zero b _ c] at hx; cases hx
    · rw [lowd_pos b f c] at hx
      obtain ⟨hd0, hd1⟩ := div_lt_pow hb h0 h1
      by_cases e : n / b ≤ 0
      · rw [lowd_zero b f e] at hx
        simp at hx
        have := Int.emod_add_mul_ediv n b
        have e0 : n / b = 0 := by omega
        rw [e0, Int.mul_zero] at this
        omega
      · have hne : lowd b f (n / b) ≠ [] := by
          cases f with
          | zero => simp at hd1; omega
          | succ f => exact lowd_ne_nil f (by omega)
        rw [List.getLast?_cons, ] at hx
        cases hl : (lowd b f (n / b)).getLast? with
        | none => rw [List.getLast?_eq_none_iff] at hl; exact absurd hl hne
        | some y =>
          rw [hl] at hx
          simp at hx
          subst hx
          exact ih _ hd0 hd1 _ hl
theorem hval_nil (b a : Int) : hval b a [] = a := rfl
theorem hval_cons (b a d : Int) (t : List Int) : hval b a (d :: t) = hval b (a * b + d) t := rfl
theorem hval_append (b : Int) : ∀ (l m : List Int) (a : Int), hval b a (l ++ m) = hval b (hval b a l) m := by
  intro l
  induction l with
  | nil => intro m a; rfl
  | cons d t ih => intro m a; exact ih m _
theorem hval_rev (b : Int) : ∀ (l : List Int), hval b 0 l.reverse = lowv b l := by
  intro l
  induction l with
  | nil => rfl
  | cons d t ih =>
    rw [List.reverse_cons, hval_append, ih]
    simp only [hval, lowv]
    rw [Int.mul_comm]; omega
theorem lowv_eq (b : Int) (l : List Int) : lowv b l = hval b 0 l.reverse := (hval_rev b l).symm
theorem lowv_nonneg {b : Int} (hb : 2 ≤ b) : ∀ (l : List Int), (∀ x ∈ l, 0 ≤ x) → 0 ≤ lowv b l := by
  intro l
  induction l with
  | nil => intro _; simp [lowv]
  | cons d t ih =>
    intro h
    have h1 := ih (fun x hx => h x (List.mem_cons_of_mem _ hx))
    have h2 := h d List.mem_cons_self
    have h3 : 0 ≤ b * lowv b t := Int.mul_nonneg (by omega) h1
    simp only [lowv]; omega
theorem hval_ge {b : Int} (hb : 2 ≤ b) : ∀ (l : List Int) (a : Int), 0 ≤ a → (∀ x ∈ l, 0 ≤ x) → a ≤ hval b a l := by
  intro l
  induction l with
  | nil => intro a _ _; exact Int.le_refl _
  | cons d t ih =>
    intro a h0 h
    have h1 : a * 2 ≤ a * b := Int.mul_le_mul_of_nonneg_left hb h0
    have h2 := h d List.mem_cons_self
    have := ih (a * b + d) (by omega) (fun x hx => h x (List.mem_cons_of_mem _ hx))
    simp only [hval]; omega
/-- Digits, the last one first, are told by their number. -/
theorem lowd_lowv {b : Int} (hb : 2 ≤ b) : ∀ (l : List Int) (f : Nat), (∀ x ∈ l, 0 ≤ x ∧ x < b) → (∀ x, l.getLast? = some x → 0 < x) → lowv b l < 2 ^ f → lowd b f (lowv b l) = l := by
  intro l
  induction l with
  | nil => intro f _ _ _; exact lowd_zero b f (by simp [lowv])
  | cons d t ih =>
    intro f hr hl hf
    have hd := hr d List.mem_cons_self
    have ht : ∀ x ∈ t, 0 ≤ x ∧ x < b := fun x hx => hr x (List.mem_cons_of_mem _ hx)
    have hv := lowv_nonneg hb t (fun x hx => (ht x hx).1)
    have hm : (d + b * lowv b t) % b = d := by rw [Int.add_mul_emod_self_left]; exact Int.emod_eq_of_lt hd.1 hd.2
    have hq : (d + b * lowv b t) / b = lowv b t := by
      rw [Int.add_mul_ediv_left _ _ (by omega), Int.ediv_eq_zero_of_lt hd.1 hd.2]; omega
    have hpos : 0 < lowv b (d :: t) := by
      simp only [lowv]
      cases t with
      | nil =>
        have := hl d (by simp)
        simp only [lowv]; omega
      | cons e u =>
        have h1 : 0 < lowv b (e :: u) := by
          rcases Int.lt_or_eq_of_le hv with h | h
          · exact h
          · exfalso
            -- all digits would be 0
            have key : ∀ (l : List Int), (∀ x ∈ l, 0 ≤ x ∧ x < b) → lowv b l = 0 → ∀ x ∈ l, x = 0 := by
              intro l
              induction l with
              | nil => intro _ _ x hx; cases hx
              | cons y l ih2 =>
                intro hr2 h0 x hx
                have h3 := lowv_nonneg hb l (fun x hx => (hr2 x (List.mem_cons_of_mem _ hx)).1)
                have h4 := (hr2 y List.mem_cons_self).1
                simp only [lowv] at h0
                have h5 : 2 * lowv b l ≤ b * lowv b l := Int.mul_le_mul_of_nonneg_right hb h3
                have h6 : lowv b l = 0 := by omega
                rcases List.mem_cons.1 hx with rfl | hx
                · rw [h6] at h0; omega
                · exact ih2 (fun x hx => hr2 x (List.mem_cons_of_mem _ hx)) h6 x hx
            cases hlast : (e :: u).getLast? with
            | none => simp at hlast
            | some z =>
              have hz := hl z (by rw [List.getLast?_cons, hlast]; rfl)
              have := key (e :: u) ht h.symm z (List.mem_of_getLast? hlast)
              omega
        have h2 : 2 * lowv b (e :: u) ≤ b * lowv b (e :: u) := Int.mul_le_mul_of_nonneg_right hb hv
        omega
    cases f with
    | zero => simp at hf; omega
    | succ f =>
      rw [lowd_pos b f (by omega)]
      simp only [lowv] at hf ⊢
      rw [hm, hq]
      have hdiv := div_lt_pow hb (show 0 ≤ d + b * lowv b t by have := Int.mul_nonneg (show (0 : Int) ≤ b by omega) hv; omega) hf
      rw [hq] at hdiv
      rw [ih f ht (fun x hx => hl x (by rw [List.getLast?_cons, hx]; rfl)) hdiv.2]

/-! ### digits of numbers: the list, the first one first -/
/-- The digits of some number. -/
def Canon (b : Int) (l : List Int) : Prop := l ≠ [] ∧ (∀ x ∈ l, 0 ≤ x ∧ x < b) ∧ (l.length = 1 ∨ ∀ x, l.head? = some x → 0 < x)
theorem two40 {n : Int} (h : n ≤ 1000000000000) : n < 2 ^ 40 ∧ n < 2 ^ 41 := by
  have : (2 : Int) ^ 40 = 1099511627776 := by decide
  have : (2 : Int) ^ 41 = 2199023255552 := by decide
  omega
theorem dgs_zero (b : Int) : dgs b 0 = [0] := rfl
theorem dgs_pos (b : Int) {n : Int} (h : n ≠ 0) : dgs b n = (lowd b 41 n).reverse := by unfold dgs; rw [if_neg h]
theorem dgs_range {b n : Int} (hb : 2 ≤ b) : ∀ x ∈ dgs b n, 0 ≤ x ∧ x < b := by
  intro x hx
  by_cases c : n = 0
  · subst c; simp [dgs] at hx; omega
  · rw [dgs_pos b c, List.mem_reverse] at hx
    exact lowd_range hb _ _ x hx
theorem dgs_length {b n : Int} (hb : 2 ≤ b) (h0 : 0 ≤ n) (h1 : n ≤ 1000000000000) : 1 ≤ (dgs b n).length ∧ (dgs b n).length ≤ 40 := by
  by_cases c : n = 0
  · subst c; simp [dgs]
  · rw [dgs_pos b c, List.length_reverse, lowd_fuel hb 41 40 n h0 (two40 h1).2 (two40 h1).1]
    refine ⟨?_, lowd_length _ _⟩
    rcases Nat.eq_zero_or_pos (lowd b 40 n).length with h | h
    · exact absurd (List.length_eq_zero_iff.1 h) (lowd_ne_nil 39 (by omega))
    · exact h
theorem dgs_ne_nil {b n : Int} (h0 : 0 ≤ n) : dgs b n ≠ [] := by
  by_cases c : n = 0
  · subst c; simp [dgs]
  · rw [dgs_pos b c]; intro h; exact lowd_ne_nil 40 (show 0 < n by omega) (List.reverse_eq_nil_iff.1 h)
theorem hval_dgs {b n : Int} (hb : 2 ≤ b) (h0 : 0 ≤ n) (h1 : n ≤ 1000000000000) : hval b 0 (dgs b n) = n := by
  by_cases c : n = 0
  · subst c; simp [dgs, hval]
  · rw [dgs_pos b c, hval_rev, lowv_lowd hb _ _ h0 (two40 h1).2]
theorem dgs_canon {b n : Int} (hb : 2 ≤ b) (h0 : 0 ≤ n) (h1 : n ≤ 1000000000000) : Canon b (dgs b n) := by
  refine ⟨dgs_ne_nil h0, dgs_range hb, ?_⟩
  by_cases c : n = 0
  · subst c; exact .inl rfl
  · refine .inr fun x hx => ?_
    rw [dgs_pos b c, List.head?_reverse] at hx
    exact lowd_last hb 41 n h0 (two40 h1).2 x hx
theorem dgs_hval {b : Int} (hb : 2 ≤ b) {l : List Int} (h : Canon b l) (h1 : hval b 0 l ≤ 1000000000000) : dgs b (hval b 0 l) = l := by
  obtain ⟨hne, hr, hh⟩ := h
  have e : hval b 0 l = lowv b l.reverse := by rw [lowv_eq, List.reverse_reverse]
  have hrr : ∀ x ∈ l.reverse, 0 ≤ x ∧ x < b := fun x hx => hr x (List.mem_reverse.1 hx)
  by_cases c : hval b 0 l = 0
  · rw [c]
    rcases hh with hh | hh
    · obtain ⟨x, rfl⟩ := List.length_eq_one_iff.1 hh
      simp [hval] at c
      rw [c]; rfl
    · exfalso
      cases l with
      | nil => exact hne rfl
      | cons d t =>
        have hd := hh d rfl
        have := hval_ge hb t (0 * b + d) (by omega) (fun x hx => (hr x (List.mem_cons_of_mem _ hx)).1)
        simp only [hval] at c
        omega
  · rw [dgs_pos b c, e]
    rcases hh with hh | hh
    · obtain ⟨x, rfl⟩ := List.length_eq_one_iff.1 hh
      have hx := hr x (by simp)
      simp [hval] at c
      rw [lowd_lowv hb _ _ hrr (fun y hy => by simp at hy; omega) (by rw [← e]; exact (two40 h1).2)]
      rfl
    · rw [lowd_lowv hb _ _ hrr (fun y hy => hh y (by rw [List.getLast?_reverse] at hy; exact hy)) (by rw [← e]; exact (two40 h1).2), List.reverse_reverse]
/-! ### sums of digits -/
/-- A number less its sum of digits: divided by the base less one, and more than 0 from the base on. -/
theorem lowv_lsum {b : Int} (hb : 2 ≤ b) : ∀ (l : List Int), (∀ x ∈ l, 0 ≤ x) → ∃ q, lowv b l - lsum l = (b - 1) * q ∧ 0 ≤ q ∧ (0 < lowv b (l.drop 1) → 0 < q) := by
  intro l
  induction l with
  | nil => intro _; exact ⟨0, by simp [lowv, lsum], by omega, by simp [lowv]⟩
  | cons d t ih =>
    intro h
    have ht := fun x hx => h x (List.mem_cons_of_mem d hx)
    obtain ⟨q, e, h0, _⟩ := ih ht
    have hv := lowv_nonneg hb t ht
    refine ⟨lowv b t + q, ?_, by omega, fun hp => ?_⟩
    · simp only [lowv, lsum]
      rw [Int.mul_add, ← e, Int.sub_mul]
      omega
    · simp only [List.drop_succ_cons, List.drop_zero] at hp
      omega
/-- The sum of the digits of a number. -/
def dsum (b n : Int) : Int := lsum (dgs b n)
theorem dsum_eq {b n : Int} (h0 : 0 ≤ n) : dsum b n = lsum (lowd b 41 n) := by
  unfold dsum
  by_cases c : n = 0
  · subst c; rfl
  · rw [dgs_pos b c, lsum_reverse]
theorem dsum_div {b n : Int} (hb : 2 ≤ b) (h0 : 0 ≤ n) (h1 : n ≤ 1000000000000) : ∃ q, n - dsum b n = (b - 1) * q ∧ 0 ≤ q ∧ (b ≤ n → 0 < q) := by
  obtain ⟨q, e, hq, hp⟩ := lowv_lsum hb (lowd b 41 n) (fun x hx => (lowd_range hb _ _ x hx).1)
  rw [lowv_lowd hb _ _ h0 (two40 h1).2, ← dsum_eq h0] at e
  refine ⟨q, e, hq, fun hbn => hp ?_⟩
  rw [lowd_pos b 40 (by omega)]
  simp only [List.drop_succ_cons, List.drop_zero]
  rw [lowv_lowd hb _ _ (div_lt_pow hb h0 (two40 h1).2).1 (div_lt_pow hb h0 (two40 h1).2).2]
  have : b / b ≤ n / b := Int.ediv_le_ediv (by omega) hbn
  rw [Int.ediv_self (by omega)] at this
  omega
theorem dsum_nonneg {b n : Int} (hb : 2 ≤ b) : 0 ≤ dsum b n := lsum_nonneg _ (fun x hx => (dgs_range hb x hx).1)
theorem dsum_le {b n : Int} (hb : 2 ≤ b) (h0 : 0 ≤ n) (h1 : n ≤ 1000000000000) : dsum b n ≤ n := by
  obtain ⟨q, e, hq, _⟩ := dsum_div hb h0 h1
  have := Int.mul_nonneg (show 0 ≤ b - 1 by omega) hq
  omega
theorem dsum_lt {b n : Int} (hb : 2 ≤ b) (h0 : b ≤ n) (h1 : n ≤ 1000000000000) : dsum b n < n := by
  obtain ⟨q, e, hq, hp⟩ := dsum_div hb (by omega) h1
  have : 1 * q ≤ (b - 1) * q := Int.mul_le_mul_of_nonneg_right (by omega) hq
  have := hp h0
  omega
theorem dsum_pos {b n : Int} (hb : 2 ≤ b) (h0 : 0 < n) (h1 : n ≤ 1000000000000) : 0 < dsum b n := by
  rw [dsum_eq (by omega)]
  have hl := lowd_last hb 41 n (by omega) (two40 h1).2
  have hne := lowd_ne_nil (b := b) 40 h0
  have hr := fun x hx => (lowd_range hb 41 n x hx).1
  generalize lowd b 41 n = l at *
  have key : ∀ (l : List Int), (∀ x ∈ l, 0 ≤ x) → ∀ x ∈ l, x ≤ lsum l := by
    intro l
    induction l with
    | nil => intro _ x hx; cases hx
    | cons d t ih =>
      intro h x hx
      have h1 := lsum_nonneg t (fun x hx => h x (List.mem_cons_of_mem _ hx))
      have h2 := h d List.mem_cons_self
      simp only [lsum]
      rcases List.mem_cons.1 hx with rfl | hx
      · omega
      · have := ih (fun x hx => h x (List.mem_cons_of_mem _ hx)) x hx
        omega
  cases hg : l.getLast? with
  | none => rw [List.getLast?_eq_none_iff] at hg; exact absurd hg hne
  | some x =>
    have := hl x hg
    have := key l hr x (List.mem_of_getLast? hg)
    omega
theorem dgs_small {b n : Int} (hb : 2 ≤ b) (h0 : 0 ≤ n) (h1 : n < b) : dgs b n = [n] := by
  by_cases c : n = 0
  · subst c; rfl
  · rw [dgs_pos b c, lowd_pos b 40 (by omega), Int.emod_eq_of_lt h0 h1, Int.ediv_eq_zero_of_lt h0 h1, lowd_zero b 40 (by omega)]
    rfl

/-! ### the least number with a sum of digits -/
/-- One more than the least number whose digits add to s. -/
def lps (b s : Int) : Int := (s % (b - 1) + 1) * b ^ (s / (b - 1)).toNat
theorem lps_parts {b q r : Int} (hb : 2 ≤ b) (hq : 0 ≤ q) (h0 : 0 ≤ r) (h1 : r < b - 1) : lps b (r + (b - 1) * q) = (r + 1) * b ^ q.toNat := by
  unfold lps
  rw [Int.add_mul_emod_self_left, Int.emod_eq_of_lt h0 h1, Int.add_mul_ediv_left _ _ (by omega), Int.ediv_eq_zero_of_lt h0 h1, Int.zero_add]
theorem lps_split {b s : Int} (hb : 2 ≤ b) (h : 0 ≤ s) : ∃ q r, s = r + (b - 1) * q ∧ 0 ≤ q ∧ 0 ≤ r ∧ r < b - 1 :=
  ⟨s / (b - 1), s % (b - 1), (Int.emod_add_mul_ediv _ _).symm, Int.ediv_nonneg h (by omega), Int.emod_nonneg _ (by omega), Int.emod_lt_of_pos _ (by omega)⟩
theorem lps_step {b s : Int} (hb : 2 ≤ b) (h : 0 ≤ s) : lps b s + 1 ≤ lps b (s + 1) := by
  obtain ⟨q, r, rfl, hq, h0, h1⟩ := lps_split hb h
  have hp : (0 : Int) < b ^ q.toNat := Int.pow_pos (by omega)
  rw [lps_parts hb hq h0 h1]
  by_cases c : r + 1 < b - 1
  · rw [show r + (b - 1) * q + 1 = (r + 1) + (b - 1) * q by omega, lps_parts hb hq (by omega) c, Int.add_mul (r + 1) 1]
    omega
  · have e : r + 1 = b - 1 := by omega
    rw [show r + (b - 1) * q + 1 = 0 + (b - 1) * (q + 1) by rw [Int.mul_add]; omega, lps_parts hb (by omega) (by omega) (by omega), e, show (q + 1).toNat = q.toNat + 1 by omega, Int.pow_succ, Int.zero_add, Int.one_mul, Int.mul_comm (b ^ q.toNat) b, Int.sub_mul]
    omega
theorem lps_more {b s : Int} (hb : 2 ≤ b) (h : 0 ≤ s) (d : Nat) : lps b s + d ≤ lps b (s + d) := by
  induction d with
  | zero => simp
  | succ d ih =>
    have := lps_step hb (show 0 ≤ s + (d : Int) by omega)
    rw [show s + ((d + 1 : Nat) : Int) = s + d + 1 by omega]
    omega
theorem lps_mono {b s t : Int} (hb : 2 ≤ b) (h : 0 ≤ s) (hst : s ≤ t) : lps b s ≤ lps b t := by
  have := lps_more hb h (t - s).toNat
  rw [show s + ((t - s).toNat : Int) = t by omega] at this
  omega
theorem lps_full {b s : Int} (hb : 2 ≤ b) (h : 0 ≤ s) : lps b (s + (b - 1)) = b * lps b s := by
  obtain ⟨q, r, rfl, hq, h0, h1⟩ := lps_split hb h
  rw [lps_parts hb hq h0 h1, show r + (b - 1) * q + (b - 1) = r + (b - 1) * (q + 1) by rw [Int.mul_add]; omega, lps_parts hb (by omega) h0 h1, show (q + 1).toNat = q.toNat + 1 by omega, Int.pow_succ, ← Int.mul_assoc, Int.mul_comm]
theorem lps_lowv {b : Int} (hb : 2 ≤ b) : ∀ (l : List Int), (∀ x ∈ l, 0 ≤ x ∧ x < b) → ∀ s, 0 ≤ s → s ≤ lsum l → lps b s ≤ lowv b l + 1 := by
  intro l
  induction l with
  | nil =>
    intro _ s h0 h1
    simp only [lsum] at h1
    have e : s = 0 := by omega
    subst e
    have := lps_parts (q := 0) (r := 0) hb (by omega) (by omega) (by omega)
    simp at this
    rw [this]; simp [lowv]
  | cons d t ih =>
    intro h s h0 h1
    simp only [lsum] at h1
    have hd := h d List.mem_cons_self
    have ht := fun x hx => h x (List.mem_cons_of_mem d hx)
    have hs := lsum_nonneg t (fun x hx => (ht x hx).1)
    have key : ∀ s', 0 ≤ s' → s' ≤ lsum t → lps b (s' + d) ≤ lowv b (d :: t) + 1 := by
      intro s' g0 g1
      have i1 := ih ht s' g0 g1
      have i2 := lps_more hb (show 0 ≤ s' + d by omega) (b - 1 - d).toNat
      rw [show s' + d + ((b - 1 - d).toNat : Int) = s' + (b - 1) by omega, lps_full hb g0] at i2
      have i3 : b * lps b s' ≤ b * (lowv b t + 1) := Int.mul_le_mul_of_nonneg_left i1 (by omega)
      rw [Int.mul_add] at i3
      simp only [lowv]
      omega
    by_cases c : d ≤ s
    · have := key (s - d) (by omega) (by omega)
      rwa [show s - d + d = s by omega] at this
    · have := key 0 (by omega) hs
      have := lps_mono hb h0 (show s ≤ 0 + d by omega)
      omega
/-- A number whose digits add to s at least. -/
theorem lps_le {b n s : Int} (hb : 2 ≤ b) (h0 : 0 ≤ n) (h1 : n ≤ 1000000000000) (hs : 0 ≤ s) (h : s ≤ dsum b n) : lps b s ≤ n + 1 := by
  rw [dsum_eq h0] at h
  have := lps_lowv hb (lowd b 41 n) (lowd_range hb _ _) s hs h
  rwa [lowv_lowd hb _ _ h0 (two40 h1).2] at this

/-! ### digits: what the functions of chapter 1 tell -/
theorem tm_eq {a b : Int} (h : 0 ≤ a) : Int.tmod a b = a % b := Int.tmod_eq_emod_of_nonneg h
theorem td_eq {a b : Int} (h : 0 ≤ a) : Int.tdiv a b = a / b := Int.tdiv_eq_ediv_of_nonneg h
def baseB (b : Int) : Bool := decide (2 ≤ b ∧ b ≤ 16)
def askB (n b : Int) : Bool := decide (0 ≤ n ∧ n ≤ 1000000000000) && baseB b
structure Ask (n b : Int) : Prop where
  n0 : 0 ≤ n
  n1 : n ≤ 1000000000000
  b2 : 2 ≤ b
  b16 : b ≤ 16
theorem askB_iff (n b : Int) : askB n b = true ↔ Ask n b := by
  unfold askB baseB
  rw [Bool.and_eq_true, decide_eq_true_iff, decide_eq_true_iff]
  exact ⟨fun h => ⟨h.1.1, h.1.2, h.2.1, h.2.2⟩, fun h => ⟨⟨h.n0, h.n1⟩, h.b2, h.b16⟩⟩
theorem isBase_b (b : Int) : impl_isBase.f b = some (baseB b) := by unfold impl_isBase.f; rw [in_f, l1In_f]; rfl
theorem dgBase_b (b : Int) : spec_dgBase.f b = some (baseB b) := by unfold spec_dgBase.f; rw [l1In_f]; rfl
theorem isNumber_b (n b : Int) : impl_isNumber.f n b = some (askB n b) := by
  unfold impl_isNumber.f askB
  rw [in_f, l1In_f, Option.bind_some, isBase_b]
  cases decide (0 ≤ n ∧ n ≤ 1000000000000) <;> rfl
theorem dgAsked_b (n b : Int) : spec_dgAsked.f n b = some (askB n b) := by
  unfold spec_dgAsked.f spec_dgNumber.f askB
  rw [l1In_f, Option.bind_some, Option.bind_some, dgBase_b]
  cases decide (0 ≤ n ∧ n ≤ 1000000000000) <;> rfl
theorem tdiv_small {n b : Int} (h0 : 0 ≤ n) (h1 : n < 4611686018427387904) (hb : 2 ≤ b) : wrap64 (Int.tdiv n b) = n / b ∧ 0 ≤ n / b ∧ n / b ≤ n := by
  have h2 : 0 ≤ n / b := Int.ediv_nonneg h0 (by omega)
  have h3 : n / b ≤ n := Int.ediv_le_self _ h0
  rw [td_eq h0, w64 (by omega) (by omega)]
  exact ⟨rfl, h2, h3⟩
theorem digitsOf_ev {n b : Int} (A : Ask n b) : Ev (fun k => impl_digitsOf.f k n b) (dgs b n) := by
  have hb := A.b2
  have key : ∀ (f : Nat) (m : Int) (acc : List Int), 0 ≤ m → m < 2 ^ f → m < 4611686018427387904 → acc.length + f ≤ 100 → Ev (fun k => impl_digitsOf.l0 k m b acc) (acc ++ lowd b f m).reverse := by
    intro f
    induction f with
    | zero =>
      intro m acc h0 h1 _ h3
      have e : m = 0 := by simp at h1; omega
      subst e
      refine Ev.step (fun k => by rw [impl_digitsOf.l0]) (Ev.neg (by omega) ?_)
      rw [lowd_zero b 0 (by omega), List.append_nil]
      refine Ev.bind1 (reverse_ev acc (by omega)) (Ev.now _)
    | succ f ih =>
      intro m acc h0 h1 h2 h3
      by_cases c : m ≤ 0
      · have e : m = 0 := by omega
        subst e
        refine Ev.step (fun k => by rw [impl_digitsOf.l0]) (Ev.neg (by omega) ?_)
        rw [lowd_zero b _ (by omega), List.append_nil]
        exact Ev.bind1 (reverse_ev acc (by omega)) (Ev.now _)
      · obtain ⟨e1, e2, e3⟩ := tdiv_small h0 h2 hb
        refine Ev.step (fun k => by rw [impl_digitsOf.l0]) (Ev.pos (by omega) (Ev.neg (by omega) (Ev.pos (by omega) ?_)))
        rw [e1, tm_eq h0, lowd_pos b f c, show acc ++ m % b :: lowd b f (m / b) = (acc ++ [m % b]) ++ lowd b f (m / b) by simp]
        exact ih _ _ e2 (div_lt_pow hb h0 h1).2 (by omega) (by simp; omega)
  have hn0 := A.n0
  have hn1 := A.n1
  obtain ⟨e1, e2, e3⟩ := tdiv_small hn0 (by omega) hb
  refine Ev.congr (fun k => show impl_digitsOf.f k n b = _ from by unfold impl_digitsOf.f; rw [if_neg (by omega), e1, tm_eq hn0]) ?_
  have h := key 40 (n / b) [n % b] e2 (div_lt_pow hb hn0 (two40 hn1).2).2 (by omega) (by simp)
  have : ([n % b] ++ lowd b 40 (n / b)).reverse = dgs b n := by
    by_cases c : n = 0
    · subst c; simp [lowd_zero, dgs_zero]
    · rw [dgs_pos b c, lowd_pos b 40 (by omega)]; rfl
  rwa [this] at h
theorem dgOf_ev {n b : Int} (A : Ask n b) : Ev (fun k => spec_dgOf.f k n b) (dgs b n) := by
  have hb := A.b2
  have hn0 := A.n0
  by_cases c : n = 0
  · subst c
    exact Ev.congr (fun k => show spec_dgOf.f k 0 b = some [0] from by unfold spec_dgOf.f; rw [if_pos rfl]) (Ev.now _)
  · have key : ∀ (f : Nat) (m : Int) (acc : List Int), 0 ≤ m → m < 2 ^ f → m < 4611686018427387904 → acc.length + f ≤ 100 → Ev (fun k => spec_dgOf.l0 k m b acc) ((lowd b f m).reverse ++ acc) := by
      intro f
      induction f with
      | zero =>
        intro m acc h0 h1 _ h3
        have e : m = 0 := by simp at h1; omega
        subst e
        refine Ev.step (fun k => by rw [spec_dgOf.l0]) (Ev.neg (by omega) ?_)
        rw [lowd_zero b 0 (by omega)]
        exact Ev.now _
      | succ f ih =>
        intro m acc h0 h1 h2 h3
        by_cases c : m ≤ 0
        · have e : m = 0 := by omega
          subst e
          refine Ev.step (fun k => by rw [spec_dgOf.l0]) (Ev.neg (by omega) ?_)
          rw [lowd_zero b _ (by omega)]
          exact Ev.now _
        · obtain ⟨e1, e2, e3⟩ := tdiv_small h0 h2 hb
          refine Ev.step (fun k => by rw [spec_dgOf.l0, Option.bind_some]) (Ev.pos (by omega) (Ev.neg (by omega) (Ev.pos (by simp; omega) ?_)))
          rw [e1, tm_eq h0, lowd_pos b f c, show (m % b :: lowd b f (m / b)).reverse ++ acc = (lowd b f (m / b)).reverse ++ ([m % b] ++ acc) by simp]
          exact ih _ _ e2 (div_lt_pow hb h0 h1).2 (by omega) (by simp; omega)
    refine Ev.congr (fun k => show spec_dgOf.f k n b = _ from by unfold spec_dgOf.f; rw [if_neg c]) ?_
    have h := key 41 n [] hn0 (two40 A.n1).2 (by have := A.n1; omega) (by simp)
    rwa [List.append_nil, ← dgs_pos b c] at h
theorem dgs_lsum_small {n b : Int} (A : Ask n b) : 0 ≤ lsum (dgs b n) ∧ lsum (dgs b n) ≤ 1000000000000 := by
  have h1 := dsum_le A.b2 A.n0 A.n1
  have h2 := dsum_nonneg (n := n) A.b2
  have := A.n1
  unfold dsum at h1 h2
  omega
theorem dgs_len {n b : Int} (A : Ask n b) : 1 ≤ (dgs b n).length ∧ (dgs b n).length ≤ 40 := dgs_length A.b2 A.n0 A.n1
theorem digitSum_ev {n b : Int} (A : Ask n b) : Ev (fun k => impl_digitSum.f k n b) (dsum b n) := by
  have hl := dgs_len A
  have hs := dgs_lsum_small A
  have h := fold_l0 impl_digitSum.l0 (fun a d => wrap64 (a + d)) (fun k a xs n i => by rw [impl_digitSum.l0]) (dgs b n) 0 (by omega)
  rw [foldw_sum _ 0 (by omega) (fun x hx => (dgs_range A.b2 x hx).1) (by omega), Int.zero_add] at h
  exact Ev.bind1 (digitsOf_ev A) h
theorem dgSum_ev (l : List Int) (h : ∀ x ∈ l, 0 ≤ x) (hs : lsum l < 9223372036854775808) (hb : (l.length : Int) ≤ 4611686018427387904) : Ev (fun k => spec_dgSum.f k l) (lsum l) := by
  have h := fold_l0 spec_dgSum.l0 (fun a d => wrap64 (a + d)) (fun k a xs n i => by rw [spec_dgSum.l0]) l 0 hb
  rw [foldw_sum _ 0 (by omega) ‹_› (by omega), Int.zero_add] at h
  exact h
theorem dgSumOf_ev {n b : Int} (A : Ask n b) : Ev (fun k => spec_dgSum.f k (dgs b n)) (dsum b n) :=
  dgSum_ev _ (fun x hx => (dgs_range A.b2 x hx).1) (by have := dgs_lsum_small A; omega) (by have := dgs_len A; omega)
theorem baseB_iff (b : Int) : baseB b = true ↔ 2 ≤ b ∧ b ≤ 16 := decide_eq_true_iff
/-- The number to which sums of digits lead. -/
theorem Ask.sum {n b : Int} (A : Ask n b) : Ask (dsum b n) b := ⟨dsum_nonneg A.b2, by have := dsum_le A.b2 A.n0 A.n1; have := A.n1; omega, A.b2, A.b16⟩

/-! ### the draws of chapter 1 -/
theorem base_ev (l : List Int) (hl : Bytes l) (p s : Int) (hp : 0 ≤ p ∧ p ≤ 4611686018427387000) : ∃ v q t, spec_l1Cur_base.f l p s = some (v, q, t) ∧ p ≤ q ∧ q ≤ p + 2 ∧ 0 ≤ v ∧ v ≤ 17 := by
  obtain ⟨v, q, t, e, hm, h1, h2⟩ := among_ev l hl p s hp [10, 10, 10, 2, 3, 5, 7, 16, 12, 10, 10, 16, 1, 17, 0] (by decide)
  refine ⟨v, q, t, by unfold spec_l1Cur_base.f; rw [e]; rfl, h1, h2, ?_⟩
  simp at hm
  omega
theorem ten_pow {j : Nat} (h : j ≤ 11) : (0 : Int) < 10 ^ j ∧ (10 : Int) ^ j ≤ 100000000000 := by
  refine ⟨Int.pow_pos (by omega), ?_⟩
  have : ∀ i : Fin 12, (10 : Int) ^ i.val ≤ 100000000000 := by decide
  exact this ⟨j, by omega⟩
theorem sure_ev (l : List Int) (hl : Bytes l) (p s : Int) (hp : 0 ≤ p ∧ p ≤ 4611686018427386000) : ∃ v q t, Ev (fun k => spec_l1Cur_sureNumber.f k l p s) (v, q, t) ∧ p ≤ q ∧ q ≤ p + 100 ∧ 0 ≤ v ∧ v ≤ 1000000000000 := by
  have key : ∀ (d j : Nat) (x p s : Int), j + d ≤ 11 → 0 ≤ x → x < 10 ^ j → 0 ≤ p ∧ p ≤ 4611686018427386900 - 2 * d → ∃ v q t, Ev (fun k => spec_l1Cur_sureNumber.l0 k x (d : Int) l p s) (v, q, t) ∧ p ≤ q ∧ q ≤ p + 2 * d ∧ 0 ≤ v ∧ v ≤ 1000000000000 := by
    intro d
    induction d with
    | zero =>
      intro j x p s hj h0 h1 hp
      have := ten_pow (show j ≤ 11 by omega)
      exact ⟨x, p, s, Ev.step (fun k => by rw [spec_l1Cur_sureNumber.l0]) (Ev.neg (by omega) (Ev.now _)), by omega, by omega, h0, by omega⟩
    | succ d ih =>
      intro j x p s hj h0 h1 hp
      have := ten_pow (show j ≤ 11 by omega)
      have hps : (10 : Int) ^ (j + 1) = 10 ^ j * 10 := Int.pow_succ _ _
      obtain ⟨v, q, t, e, D⟩ := pick_ev l hl p s 10 (by omega)
      have hv0 := D.lo
      have hv1 := D.hi (by omega)
      have hq0 := D.from_
      have hq1 := D.to_
      have hw : wrap64 (wrap64 (x * 10) + v) = x * 10 + v := by rw [w64 (n := x * 10) (by omega) (by omega), w64 (by omega) (by omega)]
      have hw2 : wrap64 (((d + 1 : Nat) : Int) - 1) = (d : Int) := by rw [w64 (by omega) (by omega)]; omega
      obtain ⟨v2, q2, t2, e2, g0, g1, g2, g3⟩ := ih (j + 1) (x * 10 + v) q t (by omega) (by omega) (by omega) (by omega)
      refine ⟨v2, q2, t2, Ev.step (fun k => by rw [spec_l1Cur_sureNumber.l0]) (Ev.pos (by omega) (Ev.pure_bind e ?_)), by omega, by omega, g2, g3⟩
      simp only []
      rw [hw, hw2]
      exact e2
  obtain ⟨v, q, t, e, D⟩ := pick_ev l hl p s 8 (by omega)
  have hq0 := D.from_
  have hq1 := D.to_
  by_cases c0 : v = 0
  · obtain ⟨v2, q2, t2, e2, D2⟩ := pick_ev l hl q t 256 (by omega)
    have := D2.lo
    have := D2.hi (by omega)
    have := D2.from_
    have := D2.to_
    exact ⟨v2, q2, t2, Ev.pure_bind e (Ev.pos c0 (Ev.pure_bind e2 (Ev.now _))), by omega, by omega, by omega, by omega⟩
  by_cases c1 : v = 1
  · obtain ⟨v2, q2, t2, e2, hm, h1, h2⟩ := among_ev l hl q t (by omega) [0, 1, 9, 10, 99, 100, 153, 370, 1000, 6174, 9999, 999999999999, 1000000000000] (by decide)
    refine ⟨v2, q2, t2, Ev.pure_bind e (Ev.neg c0 (Ev.pos c1 (Ev.pure_bind e2 (Ev.now _)))), by omega, by omega, ?_, ?_⟩
    · simp at hm; omega
    · simp at hm; omega
  by_cases c2 : v = 2
  · obtain ⟨v2, q2, t2, e2, D2⟩ := pick_ev l hl q t 256 (by omega)
    have := D2.lo
    have h1 := D2.hi (by omega)
    have := D2.from_
    have := D2.to_
    obtain ⟨v3, q3, t3, e3, D3⟩ := pick_ev l hl q2 t2 256 (by omega)
    have h3 := D3.lo
    have := D3.hi (by omega)
    have := D3.from_
    have := D3.to_
    have hm : v2 * v3 ≤ 255 * 255 := by
      have a1 : v2 * v3 ≤ 255 * v3 := Int.mul_le_mul_of_nonneg_right (by omega) h3
      omega
    have hm0 : 0 ≤ v2 * v3 := Int.mul_nonneg (by omega) h3
    have hw : wrap64 (v2 * v3) = v2 * v3 := w64 (by omega) (by omega)
    refine ⟨v2 * v3, q3, t3, Ev.pure_bind e (Ev.neg c0 (Ev.neg c1 (Ev.pos c2 (Ev.pure_bind e2 (Ev.pure_bind e3 (Ev.some (by rw [hw]))))))), by omega, by omega, by omega, by omega⟩
  · obtain ⟨v2, q2, t2, e2, D2⟩ := pick_ev l hl q t 11 (by omega)
    have := D2.lo
    have := D2.hi (by omega)
    have := D2.from_
    have := D2.to_
    have hw : wrap64 (1 + v2) = (((1 + v2).toNat : Nat) : Int) := by rw [w64 (by omega) (by omega)]; omega
    obtain ⟨v3, q3, t3, e3, g0, g1, g2, g3⟩ := key (1 + v2).toNat 0 0 q2 t2 (by omega) (by omega) (by simp) (by omega)
    refine ⟨v3, q3, t3, Ev.pure_bind e (Ev.neg c0 (Ev.neg c1 (Ev.neg c2 (Ev.pure_bind e2 ?_)))), by omega, by omega, g2, g3⟩
    rw [hw]
    exact e3
theorem number_ev (l : List Int) (hl : Bytes l) (p s : Int) (hp : 0 ≤ p ∧ p ≤ 4611686018427385000) : ∃ v q t, Ev (fun k => spec_l1Cur_number.f k l p s) (v, q, t) ∧ p ≤ q ∧ q ≤ p + 200 := by
  obtain ⟨b, q, t, e, h1, h2⟩ := one_ev l hl p s 20 (by omega)
  cases b with
  | true =>
    obtain ⟨v2, q2, t2, e2, hm, g1, g2⟩ := among_ev l hl q t (by omega) [-1, 1000000000001, 4611686018427387904, -4611686018427387904] (by decide)
    exact ⟨v2, q2, t2, Ev.pure_bind e (Ev.pos rfl (Ev.pure_bind e2 (Ev.now _))), by omega, by omega⟩
  | false =>
    obtain ⟨v2, q2, t2, e2, g1, g2, _, _⟩ := sure_ev l hl q t (by omega)
    exact ⟨v2, q2, t2, Ev.pure_bind e (Ev.neg (by simp) (Ev.bind1 e2 (Ev.now _))), by omega, by omega⟩

/-! ### runs of sums of digits -/
inductive Run (b : Int) : Int → List Int → Prop
  | stop {n : Int} : n < b → Run b n [n]
  | go {n : Int} {l : List Int} : b ≤ n → Run b (dsum b n) l → Run b n (n :: l)
theorem run_is {n b : Int} (A : Ask n b) : ∃ l, Run b n l := by
  have key : ∀ (m : Nat) (n : Int), n.toNat ≤ m → Ask n b → ∃ l, Run b n l := by
    intro m
    induction m with
    | zero =>
      intro n hm A
      have := A.n0
      have := A.b2
      exact ⟨_, .stop (by omega)⟩
    | succ m ih =>
      intro n hm A
      by_cases c : b ≤ n
      · have hlt := dsum_lt A.b2 c A.n1
        have := A.b2
        obtain ⟨l, h⟩ := ih (dsum b n) (by omega) A.sum
        exact ⟨_, .go c h⟩
      · exact ⟨_, .stop (by omega)⟩
  exact key n.toNat n (by omega) A
theorem Run.head {b n : Int} {l : List Int} (h : Run b n l) : l = n :: l.tail := by cases h <;> rfl
theorem Run.len {b n : Int} {l : List Int} (h : Run b n l) (A : Ask n b) : (l.length : Int) ≤ n + 1 := by
  induction h with
  | stop h => have := A.n0; simp only [List.length_singleton]; omega
  | @go n l c h ih =>
    have := ih A.sum
    have := dsum_lt A.b2 c A.n1
    rw [List.length_cons]; omega
theorem Run.last_ {b n : Int} {l : List Int} (h : Run b n l) (A : Ask n b) : ∃ r, l.getLast? = some r ∧ 0 ≤ r ∧ r < b ∧ r ≤ n ∧ (0 < n → 0 < r) ∧ ∃ q, n - r = (b - 1) * q := by
  induction h with
  | @stop n h => exact ⟨n, rfl, A.n0, h, Int.le_refl _, fun h => h, 0, by omega⟩
  | @go n l c h ih =>
    obtain ⟨r, e, h0, h1, h2, h3, q, hq⟩ := ih A.sum
    have hlt := dsum_lt A.b2 c A.n1
    have hp := dsum_pos A.b2 (show 0 < n by have := A.b2; omega) A.n1
    obtain ⟨q', e', _⟩ := dsum_div A.b2 A.n0 A.n1
    have hh := h.head
    refine ⟨r, by rw [hh] at e ⊢; rw [List.getLast?_cons_cons]; exact e, h0, h1, by omega, fun _ => h3 hp, q' + q, by rw [Int.mul_add]; omega⟩
def rootR (n b : Int) : Int := if n = 0 then 0 else 1 + (n - 1) % (b - 1)
theorem Run.lastR {b n : Int} {l : List Int} (h : Run b n l) (A : Ask n b) : l.getLast? = some (rootR n b) := by
  obtain ⟨r, e, h0, h1, h2, h3, q, hq⟩ := h.last_ A
  rw [e]
  congr 1
  have := A.n0
  have := A.b2
  unfold rootR
  by_cases c : n = 0
  · rw [if_pos c]; omega
  · rw [if_neg c]
    have hr := h3 (by omega)
    have e2 : n - 1 = (r - 1) + (b - 1) * q := by omega
    rw [e2, Int.add_mul_emod_self_left, Int.emod_eq_of_lt (by omega) (by omega)]
    omega
theorem Run.down_ev {b n : Int} {l : List Int} (h : Run b n l) : Ask n b → ∀ (out : List Int), (out.length : Int) + l.length ≤ 10000000000000 → Ev (fun k => impl_down.l0 impl_digitSum.f k b out n) (out ++ l.tail) ∧ Ev (fun k => spec_prRun.l0 k n b true out) (out ++ l.tail) := by
  induction h with
  | stop h =>
    intro A out _
    rw [List.tail_cons, List.append_nil]
    exact ⟨Ev.step (fun k => by rw [impl_down.l0]) (Ev.neg (by omega) (Ev.now _)), Ev.step (fun k => by rw [spec_prRun.l0]) (Ev.neg (by omega) (Ev.now _))⟩
  | @go n l c h ih =>
    intro A out ho
    rw [List.length_cons] at ho
    obtain ⟨e1, e2⟩ := ih A.sum (out ++ [dsum b n]) (by rw [List.length_append]; simp; omega)
    have hh : out ++ [dsum b n] ++ l.tail = out ++ l := by rw [List.append_assoc, List.singleton_append, ← h.head]
    rw [hh] at e1 e2
    have hl : out.length < 17592186044416 := by omega
    rw [List.tail_cons]
    exact ⟨Ev.step (fun k => by rw [impl_down.l0]) (Ev.pos c (Ev.bind1 (digitSum_ev A) (Ev.pos hl e1))), Ev.step (fun k => by rw [spec_prRun.l0]) (Ev.pos c (Ev.pos rfl (Ev.bind1 (dgOf_ev A) (Ev.bind1 (dgSumOf_ev A) (Ev.pos hl e2)))))⟩
theorem Run.whole {b n : Int} {l : List Int} (h : Run b n l) (A : Ask n b) : Ev (fun k => impl_down.f impl_digitSum.f k n b) l ∧ Ev (fun k => spec_prRun.f k n b true) l := by
  have hl := h.len A
  have := A.n1
  have := h.down_ev A [n] (by simp; omega)
  have hh : [n] ++ l.tail = l := by rw [List.singleton_append, ← h.head]
  rw [hh] at this
  exact this
theorem Run.root_ev {b n : Int} {l : List Int} (h : Run b n l) : Ask n b → Ev (fun k => impl_DigitalRoot.l0 k n b) (l.getLast?.getD 0, true) := by
  induction h with
  | @stop n h =>
    intro A
    have hv : [n].getLast?.getD 0 = n := rfl
    rw [hv]
    exact Ev.step (fun k => by rw [impl_DigitalRoot.l0]) (Ev.neg (by omega) (Ev.now _))
  | @go n l c h ih =>
    intro A
    have e := ih A.sum
    have hh := h.head
    have : (n :: l).getLast? = l.getLast? := by rw [hh]; exact List.getLast?_cons_cons
    rw [this]
    exact Ev.step (fun k => by rw [impl_DigitalRoot.l0]) (Ev.pos c (Ev.bind1 (digitSum_ev A) e))
/-- What stands next to each other in a run. -/
theorem Run.next {b n : Int} {l : List Int} (h : Run b n l) : Ask n b → ∀ (i : Nat) (hi : i + 1 < l.length), Ask (l[i]'(by omega)) b ∧ b ≤ l[i]'(by omega) ∧ l[i + 1] = dsum b (l[i]'(by omega)) := by
  induction h with
  | stop h => intro A i hi; simp at hi
  | @go n l c h ih =>
    intro A i hi
    rw [List.length_cons] at hi
    cases i with
    | zero =>
      refine ⟨A, c, ?_⟩
      have hh := h.head
      have : ∀ (l : List Int) (x : Int) (h : 0 < l.length), l = x :: l.tail → l[0] = x := by
        intro l x h e
        cases l with
        | nil => cases h
        | cons y t => simp at e; exact e
      exact this l _ (by omega) hh
    | succ i => exact ih A.sum i (by omega)
/-! #### the least number that takes so long -/
def tab (k b : Int) : Int := if k = 0 then 0 else if k = 1 then b else if k = 2 then lps b b - 1 else lps b (lps b b - 1) - 1
theorem Run.least {b n : Int} {l : List Int} (h : Run b n l) (A : Ask n b) {p : Int} (hp : (l.length : Int) = p + 1) (h3 : p ≤ 3) : tab p b ≤ n := by
  have hn := A.n0
  have hb := A.b2
  unfold tab
  cases h with
  | stop c =>
    simp at hp
    rw [if_pos (by omega)]; exact hn
  | @go _ l1 c h1 =>
    have A1 := A.sum
    rw [List.length_cons] at hp
    cases h1 with
    | stop c1 =>
      simp at hp
      rw [if_neg (by omega), if_pos (by omega)]; exact c
    | @go _ l2 c1 h2 =>
      have b2 := lps_le hb hn A.n1 (show 0 ≤ b by omega) c1
      have A2 := A1.sum
      rw [List.length_cons] at hp
      cases h2 with
      | stop c2 =>
        simp at hp
        rw [if_neg (by omega), if_neg (by omega), if_pos (by omega)]; omega
      | @go _ l3 c2 h3' =>
        have b3 := lps_le hb A1.n0 A1.n1 (show 0 ≤ b by omega) c2
        have b4 := lps_mono hb (show (0 : Int) ≤ 0 by omega) (show 0 ≤ b by omega)
        have b5 : lps b 0 = 1 := by
          have := lps_parts (q := 0) (r := 0) hb (by omega) (by omega) (by omega)
          simpa using this
        have b6 := lps_le hb hn A.n1 (show 0 ≤ lps b b - 1 by omega) (show lps b b - 1 ≤ dsum b n by omega)
        have hh := h3'.head
        have hl : 0 < l3.length := by rw [hh]; simp
        rw [List.length_cons] at hp
        rw [if_neg (by omega), if_neg (by omega), if_neg (by omega)]; omega
def lspOk (k b : Int) : Bool := decide (impl_LeastSumPersistent.f 80 k b = some (tab k b, true)) && (decide (spec_LeastSumPersistent.f 80 k b = some (tab k b, true)) && decide (impl_SumPersistence.f 80 (tab k b) b = some (k, true)))
def lspAll : Bool := (List.range 4).all fun k => (List.range 15).all fun b => lspOk (k : Int) ((b : Int) + 2)
theorem lsp_all : lspAll = true := by kernel_rfl
theorem lsp_ok {k b : Int} (hk : 0 ≤ k ∧ k ≤ 3) (hb : 2 ≤ b ∧ b ≤ 16) : lspOk k b = true := by
  have h1 := List.all_eq_true.1 lsp_all k.toNat (List.mem_range.2 (by omega))
  have h2 := List.all_eq_true.1 h1 (b - 2).toNat (List.mem_range.2 (by omega))
  rw [show ((k.toNat : Nat) : Int) = k by omega, show (((b - 2).toNat : Nat) : Int) + 2 = b by omega] at h2
  exact h2
def lspB (k b : Int) : Bool := decide (0 ≤ k ∧ k ≤ 3) && baseB b
theorem lsp_ev (k b : Int) : Ev (fun n => impl_LeastSumPersistent.f n k b) (if lspB k b = true then (tab k b, true) else (0, false)) ∧ Ev (fun n => spec_LeastSumPersistent.f n k b) (if lspB k b = true then (tab k b, true) else (0, false)) ∧ (lspB k b = true → Ev (fun n => impl_SumPersistence.f n (tab k b) b) (k, true)) := by
  by_cases c : lspB k b = true
  · have c' := c
    unfold lspB at c'
    rw [Bool.and_eq_true, decide_eq_true_iff] at c'
    have hok := lsp_ok c'.1 ((baseB_iff b).1 c'.2)
    unfold lspOk at hok
    simp only [Bool.and_eq_true, decide_eq_true_iff] at hok
    rw [if_pos c]
    exact ⟨Ev.of (fun n => impl_LeastSumPersistent.mono _ _ n) hok.1, Ev.of (fun n => spec_LeastSumPersistent.mono _ _ n) hok.2.1, fun _ => Ev.of (fun n => impl_SumPersistence.mono _ _ n) hok.2.2⟩
  · rw [if_neg c]
    have c' := Bool.eq_false_iff.2 c
    unfold lspB at c'
    refine ⟨?_, ?_, fun h => absurd h c⟩
    · refine Ev.pure_bind ((in_f k 0 3).trans (l1In_f k 0 3)) ?_
      cases h1 : decide (0 ≤ k ∧ k ≤ 3) with
      | false => exact Ev.neg (by simp) (Ev.step (fun n => by rw [impl_LeastSumPersistent.j0, if_pos rfl]) (Ev.now _))
      | true =>
        rw [h1, Bool.true_and] at c'
        refine Ev.pos rfl (Ev.pure_bind (isBase_b b) ?_)
        rw [c']
        exact Ev.step (fun n => by rw [impl_LeastSumPersistent.j0, if_pos (show (!false) = true from rfl)]) (Ev.now _)
    · refine Ev.pure_bind (dgBase_b b) ?_
      cases h1 : baseB b with
      | false => exact Ev.neg (by simp) (Ev.step (fun n => by rw [spec_LeastSumPersistent.j0, if_pos rfl]) (Ev.now _))
      | true =>
        rw [h1, Bool.and_true] at c'
        refine Ev.pos rfl (Ev.pure_bind (l1In_f k 0 3) ?_)
        rw [c']
        exact Ev.step (fun n => by rw [spec_LeastSumPersistent.j0, if_pos (show (!false) = true from rfl)]) (Ev.now _)

theorem tt_ne : ¬ (true != true) = true := by simp
theorem ff_ne : ¬ (false != false) = true := by simp

/-! ### the law -/
theorem qSame_self (a : List Int) (hb : (a.length : Int) ≤ 4611686018427387904) : Ev (fun k => laws_qSame.f k a a) true := by
  have h := same_l0 laws_qSame.l0 (fun k x0 x1 x12 x13 => by rw [laws_qSame.l0]) a a rfl hb
  rw [decide_eq_true rfl] at h
  exact Ev.pos rfl h
theorem rootR_ev (n b : Int) : impl_RootByRemainder.f n b = some (if askB n b = true then (rootR n b, true) else (0, false)) ∧ spec_RootByRemainder.f n b = some (if askB n b = true then (rootR n b, true) else (0, false)) := by
  unfold impl_RootByRemainder.f spec_RootByRemainder.f
  rw [isNumber_b, dgAsked_b, Option.bind_some, Option.bind_some]
  by_cases c : askB n b = true
  · have A := (askB_iff n b).1 c
    have := A.n0
    have := A.n1
    have := A.b2
    have := A.b16
    rw [if_pos c, if_pos c, if_pos c, w64 (n := b - 1) (by omega) (by omega), w64 (n := n - 1) (by omega) (by omega)]
    unfold rootR
    by_cases c0 : n = 0
    · rw [if_pos c0, if_pos c0, if_pos c0]; exact ⟨rfl, rfl⟩
    · have h1 := Int.emod_nonneg (n - 1) (show b - 1 ≠ 0 by omega)
      have h2 := Int.emod_lt_of_pos (n - 1) (show 0 < b - 1 by omega)
      rw [if_neg c0, if_neg c0, if_neg c0, if_neg (by omega), if_neg (by omega), tm_eq (by omega), w64 (by omega) (by omega), w64 (by omega) (by omega), Int.add_comm]
      exact ⟨rfl, rfl⟩
  · rw [if_neg c, if_neg c, if_neg c]; exact ⟨rfl, rfl⟩
theorem drawSumRun_ev (l : List Int) (hl : Bytes l) : ∃ n b, Ev (fun k => spec_DrawSumRun.f k l) (n, b) := by
  obtain ⟨v, q, t, e, h1, h2⟩ := number_ev l hl 0 0 (by omega)
  obtain ⟨v2, q2, t2, e2, _⟩ := base_ev l hl q t (by omega)
  exact ⟨v, v2, Ev.bind1 (Ev.bind1 e (Ev.pure_bind e2 (Ev.now (v, v2)))) (Ev.now (v, v2))⟩
theorem drawLeast_ev (l : List Int) (hl : Bytes l) : ∃ k b, spec_DrawLeastSumPersistent.f l = some (k, b) := by
  obtain ⟨v, q, t, e, D⟩ := pick_ev l hl 0 0 6 (by omega)
  have := D.from_
  have := D.to_
  obtain ⟨v2, q2, t2, e2, _⟩ := base_ev l hl q t (by omega)
  exact ⟨_, v2, by unfold spec_DrawLeastSumPersistent.f; rw [e, Option.bind_some, e2, Option.bind_some]⟩
theorem sumTail_ev (l1 : List Int) (hl : Bytes l1) : Ev (fun k => laws_FnSumsOfDigitsRun.j1 k l1) true := by
  obtain ⟨p, b, e⟩ := drawLeast_ev l1 hl
  obtain ⟨e1, e2, e3⟩ := lsp_ev p b
  by_cases c : lspB p b = true
  · rw [if_pos c] at e1 e2
    refine Ev.step (fun k => by rw [laws_FnSumsOfDigitsRun.j1]) (Ev.pure_bind e (Ev.bind1 e1 (Ev.bind1 e2 (Ev.neg tt_ne (Ev.pos rfl (Ev.pos rfl (Ev.bind1 (e3 c) (Ev.pos rfl (Ev.some ?_)))))))))
    simp
  · rw [if_neg c] at e1 e2
    exact Ev.step (fun k => by rw [laws_FnSumsOfDigitsRun.j1]) (Ev.pure_bind e (Ev.bind1 e1 (Ev.bind1 e2 (Ev.neg ff_ne (Ev.pos rfl (Ev.neg (show ¬ false = true by simp) (Ev.now _)))))))
theorem SumRun_ev (n b : Int) : ∃ l : List Int, (askB n b = true → Run b n l) ∧ Ev (fun k => impl_SumRun.f k n b) (if askB n b = true then (l, true) else ([], false)) ∧ Ev (fun k => spec_SumRun.f k n b) (if askB n b = true then (l, true) else ([], false)) ∧
    Ev (fun k => impl_SumPersistence.f k n b) (if askB n b = true then ((l.length : Int) - 1, true) else (0, false)) ∧ Ev (fun k => spec_SumPersistence.f k n b) (if askB n b = true then ((l.length : Int) - 1, true) else (0, false)) := by
  by_cases c : askB n b = true
  · have A := (askB_iff n b).1 c
    obtain ⟨l, h⟩ := run_is A
    have hw := h.whole A
    have hl := h.len A
    have := A.n1
    have hlen : 0 < l.length := by rw [h.head]; simp
    have hw2 : wrap64 ((l.length : Int) - 1) = (l.length : Int) - 1 := w64 (by omega) (by omega)
    refine ⟨l, fun _ => h, ?_⟩
    rw [if_pos c, if_pos c]
    refine ⟨Ev.pure_bind (isNumber_b n b) (Ev.pos c (Ev.bind1 hw.1 (Ev.now _))), Ev.pure_bind (dgAsked_b n b) (Ev.pos c (Ev.bind1 hw.2 (Ev.now _))), Ev.pure_bind (isNumber_b n b) (Ev.pos c (Ev.bind1 hw.1 (Ev.some (by rw [hw2])))), Ev.pure_bind (dgAsked_b n b) (Ev.pos c (Ev.bind1 hw.2 (Ev.some (by rw [hw2]))))⟩
  · refine ⟨[], fun h => absurd h c, ?_⟩
    rw [if_neg c, if_neg c]
    exact ⟨Ev.pure_bind (isNumber_b n b) (Ev.neg c (Ev.now _)), Ev.pure_bind (dgAsked_b n b) (Ev.neg c (Ev.now _)), Ev.pure_bind (isNumber_b n b) (Ev.neg c (Ev.now _)), Ev.pure_bind (dgAsked_b n b) (Ev.neg c (Ev.now _))⟩
theorem rd_last {l : List Int} {r : Int} (h : l.getLast? = some r) (hb : (l.length : Int) ≤ 4611686018427387904) : 0 < l.length ∧ rd l (wrap64 ((l.length : Int) - 1)) = r := by
  have hne : l ≠ [] := fun e => by rw [e] at h; cases h
  have hp := List.length_pos_iff.2 hne
  refine ⟨hp, ?_⟩
  rw [w64 (by omega) (by omega), show (l.length : Int) - 1 = ((l.length - 1 : Nat) : Int) by omega, rd_el (by omega)]
  rw [List.getLast?_eq_getElem?, List.getElem?_eq_getElem (by omega)] at h
  exact Option.some.inj h
theorem sumLoop_ev {n b : Int} {l : List Int} (h : Run b n l) (A : Ask n b) (l1 : List Int) (B1 : Bytes l1) : Ev (fun k => laws_FnSumsOfDigitsRun.l0 k l1 n b l ((l.length : Int) - 1) 1) true := by
  have hlen := h.len A
  have h1 := A.n1
  have hb := A.b2
  have hb16 := A.b16
  have hp : 0 < l.length := by rw [h.head]; simp
  have hwb : wrap64 (b - 1) = b - 1 := w64 (by omega) (by omega)
  have hnext := h.next A
  have hend : Ev (fun k => laws_FnSumsOfDigitsRun.l0 k l1 n b l ((l.length : Int) - 1) (l.length : Int)) true := by
    refine Ev.step (fun k => by rw [laws_FnSumsOfDigitsRun.l0]) (Ev.neg (by omega) (Ev.bind1 (lsp_ev ((l.length : Int) - 1) b).1 ?_))
    by_cases c : lspB ((l.length : Int) - 1) b = true
    · rw [if_pos c]
      have c' := c
      unfold lspB at c'
      rw [Bool.and_eq_true, decide_eq_true_iff] at c'
      have := h.least A (p := (l.length : Int) - 1) (by omega) c'.1.2
      exact Ev.pos rfl (Ev.neg (by simpa using this) (sumTail_ev l1 B1))
    · rw [if_neg c]
      exact Ev.neg (by simp) (sumTail_ev l1 B1)
  have key : ∀ (d i : Nat), i + 1 + d = l.length → Ev (fun k => laws_FnSumsOfDigitsRun.l0 k l1 n b l ((l.length : Int) - 1) ((i + 1 : Nat) : Int)) true := by
    intro d
    induction d with
    | zero =>
      intro i hi
      rw [show ((i + 1 : Nat) : Int) = (l.length : Int) by omega]
      exact hend
    | succ d ih =>
      intro i hi
      have hw1 : wrap64 (((i + 1 : Nat) : Int) - 1) = (i : Int) := by rw [w64 (by omega) (by omega)]; omega
      obtain ⟨Ai, hbi, hni⟩ := hnext i (by omega)
      have r0 : rd l (i : Int) = l[i]'(by omega) := rd_el (by omega)
      have r1 : rd l ((i + 1 : Nat) : Int) = dsum b (l[i]'(by omega)) := by rw [rd_el (by omega)]; exact hni
      have hlt := dsum_lt hb hbi Ai.n1
      have hnn := dsum_nonneg (n := l[i]'(by omega)) hb
      obtain ⟨q, e, _⟩ := dsum_div hb Ai.n0 Ai.n1
      have hi1 := Ai.n1
      have hmod : Int.tmod (wrap64 (l[i]'(by omega) - dsum b (l[i]'(by omega)))) (b - 1) = 0 := by
        rw [w64 (by omega) (by omega), e]; exact Int.mul_tmod_right _ _
      have hds : Ev (fun k => impl_DigitSum.f k (l[i]'(by omega)) b) (dsum b (l[i]'(by omega)), true) := Ev.pure_bind (isNumber_b _ b) (Ev.pos ((askB_iff _ b).2 Ai) (Ev.bind1 (digitSum_ev Ai) (Ev.now _)))
      have hlast := ih (i + 1) (by omega)
      generalize l[i]'(by omega) = x at *
      refine Ev.step (fun k => by rw [laws_FnSumsOfDigitsRun.l0]) (Ev.pos (by omega) ?_)
      rw [hw1, r0, r1, hwb, w64_succ (by omega)]
      refine Ev.pos (by omega) (Ev.pos (by omega) (Ev.bind1 hds (Ev.pos rfl (Ev.pos (by omega) (Ev.pos rfl (Ev.neg (by omega) (Ev.neg (by omega) (Ev.pos hmod ?_))))))))
      exact hlast
  have := key (l.length - 1) 0 (by omega)
  simpa using this
theorem FnSumsOfDigitsRun : laws_FnSumsOfDigitsRun.Pure := by
  intro l0 l1 _ _ hw0 _ _ hw1
  have B0 := Bytes.of hw0
  have B1 := Bytes.of hw1
  by_cases c : (1048576 < (l0.length : Int) ∨ 1048576 < (l0.length : Int) + (l1.length : Int))
  · exact ⟨0, by unfold laws_FnSumsOfDigitsRun.f; rw [big_f, decide_eq_true c]; rfl⟩
  refine Ev.rounds (r := true) ?_
  refine Ev.pure_bind (big_f l0 l1) (Ev.neg (by simpa using c) ?_)
  obtain ⟨n, b, e⟩ := drawSumRun_ev l0 B0
  obtain ⟨l, hr, s1, s2, s3, s4⟩ := SumRun_ev n b
  have s5 := rootR_ev n b
  by_cases c2 : askB n b = true
  · have A := (askB_iff n b).1 c2
    have h := hr c2
    have hlen := h.len A
    have h1 := A.n1
    rw [if_pos c2] at s1 s2 s3 s4 s5
    have hlR := h.lastR A
    obtain ⟨hp, hlast⟩ := rd_last hlR (by omega)
    have s6 : Ev (fun k => impl_DigitalRoot.f k n b) (rootR n b, true) := by
      have := h.root_ev A
      rw [hlR] at this
      exact Ev.pure_bind (isNumber_b n b) (Ev.pos c2 this)
    have hwl : wrap64 ((l.length : Int) - 1) = (l.length : Int) - 1 := w64 (by omega) (by omega)
    have hwl2 : wrap64 ((l.length : Int) - 1 + 1) = (l.length : Int) := by rw [w64 (by omega) (by omega)]; omega
    have q := qSame_self l (by omega)
    refine Ev.bind1 e (Ev.bind1 s1 (Ev.bind1 s2 (Ev.bind1 s3 (Ev.bind1 s4 (Ev.pure_bind s5.1 (Ev.pure_bind s5.2 ?_))))))
    refine Ev.neg tt_ne (Ev.bind1 q (Ev.pos rfl (Ev.neg tt_ne (Ev.pos rfl (Ev.neg tt_ne (Ev.pos rfl (Ev.neg tt_ne (Ev.neg tt_ne (Ev.pos rfl ?_)))))))))
    have hge : 0 ≤ wrap64 ((l.length : Int) - 1) := by rw [hwl]; omega
    have hlt : wrap64 ((l.length : Int) - 1) < (l.length : Int) := by rw [hwl]; omega
    exact Ev.pos hge (Ev.pos hlt (Ev.bind1 s6 (Ev.pos hwl2.symm (Ev.pos hlast (Ev.pos rfl (Ev.pos rfl (sumLoop_ev h A l1 B1)))))))
  · rw [if_neg c2] at s1 s2 s3 s4 s5
    have q := qSame_self [] (by simp)
    refine Ev.bind1 e (Ev.bind1 s1 (Ev.bind1 s2 (Ev.bind1 s3 (Ev.bind1 s4 (Ev.pure_bind s5.1 (Ev.pure_bind s5.2 ?_))))))
    refine Ev.neg ff_ne (Ev.bind1 q (Ev.pos rfl (Ev.neg ff_ne (Ev.pos rfl (Ev.neg ff_ne (Ev.pos rfl (Ev.neg ff_ne (Ev.neg ff_ne (Ev.neg (show ¬ false = true by simp) ?_)))))))))
    exact sumTail_ev l1 B1

end Go.Proofs.Ythamjbfdhghbbaa.Pure
