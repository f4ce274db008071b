/- Self telling lists tell their own counts, have their length as their sum, and are one alone from seven numbers on; for all inputs. -/
import Derived.Test.YtaldmgfhkaiefaaPFnSelfTellingListsx
namespace Go.Proofs.Ytaldmgfhkaiefaa.Pure
open Go.RowKit Go.Proofs.Ytaldmgfhkaiefaa.PFnSelfTellingLists Go.Proofs.YtaldmgfhkaiefaaW.PrintWords Go.Proofs.YtaldmgfhkaiefaaW.PrintLast
set_option linter.unusedVariables false
set_option linter.unusedSimpArgs false
/-! ### words on rounds and on int's wraps -/
theorem Ev.pos {α : Type} {c : Prop} [Decidable c] {g f : Nat → Option α} {r : α} (hc : c) (h : Ev g r) : Ev (fun k => if c then g k else f k) r := Ev.congr (fun _ => if_pos hc) h
theorem Ev.neg {α : Type} {c : Prop} [Decidable c] {g f : Nat → Option α} {r : α} (hc : ¬ c) (h : Ev f r) : Ev (fun k => if c then g k else f k) r := Ev.congr (fun _ => if_neg hc) h
theorem Ev.some {α : Type} {a r : α} (h : a = r) : Ev (fun _ => Option.some a) r := h ▸ Ev.now a
theorem Ev.bind1 {α β : Type} {g : Nat → Option α} {f : Nat → α → Option β} {a : α} {r : β} (h : Ev g a) (k : Ev (fun n => f n a) r) : Ev (fun n => (g n).bind (f n)) r := Ev.bind h k
theorem Ev.pure_bind {α β : Type} {o : Option α} {f : Nat → α → Option β} {a : α} {r : β} (h : o = Option.some a) (k : Ev (fun n => f n a) r) : Ev (fun n => o.bind (f n)) r := by
  subst h; exact k
theorem Ev.two {α β : Type} {g : Nat → Option α} {f : Nat → Option β} {a : α} {b : β} (h : Ev g a) (k : Ev f b) : ∃ n, g n = Option.some a ∧ f n = Option.some b := by
  obtain ⟨K, h⟩ := h
  obtain ⟨K', k⟩ := k
  exact ⟨max K K', h _ (by omega), k _ (by omega)⟩
theorem w64 {n : Int} (h0 : -9223372036854775808 ≤ n) (h1 : n < 9223372036854775808) : wrap64 n = n := by unfold wrap64; omega
theorem w64_emod (n : Int) : wrap64 n % 18446744073709551616 = n % 18446744073709551616 := by unfold wrap64; omega
theorem w64_congr {a b : Int} (h : a % 18446744073709551616 = b % 18446744073709551616) : wrap64 a = wrap64 b := by unfold wrap64; omega
theorem w64_lo (n : Int) : -9223372036854775808 ≤ wrap64 n := by unfold wrap64; omega
theorem w64_hi (n : Int) : wrap64 n < 9223372036854775808 := by unfold wrap64; omega
theorem int_wf {a : Int} (h : (Lit.int .i64 a).wf = true) : -9223372036854775808 ≤ a ∧ a ≤ 9223372036854775807 := by
  simp [Lit.wf] at h
  exact ⟨h.1, h.2⟩

/-! ### words on lists by their numbers -/
theorem rd_q (xs : List Int) (i : Nat) : rd xs (i : Int) = (xs[i]?).getD 0 := by simp [rd, List.getD_eq_getElem?_getD]
theorem rd_el {xs : List Int} {i : Nat} (h : i < xs.length) : rd xs (i : Int) = xs[i] := by rw [rd_q, List.getElem?_eq_getElem h]; rfl
theorem rd_mem {xs : List Int} {i : Nat} (h : i < xs.length) : rd xs (i : Int) ∈ xs := by rw [rd_el h]; exact List.getElem_mem h
theorem rd_ext {a b : List Int} (hl : a.length = b.length) (h : ∀ p < a.length, rd a (p : Int) = rd b (p : Int)) : a = b := by
  apply List.ext_getElem hl
  intro p h1 h2
  rw [← rd_el h1, ← rd_el h2]
  exact h p h1
theorem rd_set (xs : List Int) (i p : Nat) (v : Int) (hi : i < xs.length) : rd (xs.set i v) (p : Int) = if p = i then v else rd xs (p : Int) := by
  rw [rd_q, rd_q, List.getElem?_set]
  by_cases c : p = i
  · subst c; rw [if_pos rfl, if_pos rfl, if_pos hi]; rfl
  · rw [if_neg c, if_neg (fun h => c h.symm)]
theorem rd_rev {xs : List Int} {p : Nat} (h : p < xs.length) : rd xs.reverse (p : Int) = rd xs ((xs.length - 1 - p : Nat) : Int) := by
  rw [rd_el (by simpa using h), rd_el (by omega), List.getElem_reverse]
theorem rd_tab (f : Nat → Int) {n p : Nat} (h : p < n) : rd ((List.range n).map f) (p : Int) = f p := by
  rw [rd_el (by simpa using h)]; simp
theorem rd_cons0 (x : Int) (t : List Int) : rd (x :: t) 0 = x := rfl
theorem rd_append_left {a b : List Int} {p : Nat} (h : p < a.length) : rd (a ++ b) (p : Int) = rd a (p : Int) := by rw [rd_q, rd_q, List.getElem?_append_left h]
theorem rd_append_right {a b : List Int} {p : Nat} : rd (a ++ b) ((a.length + p : Nat) : Int) = rd b (p : Int) := by rw [rd_q, rd_q, List.getElem?_append_right (by omega)]; congr 2; omega
theorem rd_drop (a : List Int) (i p : Nat) : rd (a.drop i) (p : Int) = rd a ((i + p : Nat) : Int) := by rw [rd_q, rd_q, List.getElem?_drop]
theorem tab_succ (f : Nat → Int) (n : Nat) : (List.range (n + 1)).map f = (List.range n).map f ++ [f n] := by rw [List.range_succ, List.map_append]; rfl
/-! #### loops that compare -/
section
variable (L : Nat → List Int → List Int → Int → Int → Option Bool)
  (h0 : ∀ k x0 x1 x12 x13, L (k + 1) x0 x1 x12 x13 = if x13 < x12 then (if 0 ≤ x13 then (if x13 < (x0.length : Int) then (if x13 < (x1.length : Int) then (if (rd x0 x13) = (rd x1 x13) then (L k x0 x1 x12 (wrap64 (x13 + 1))) else (some false)) else (none)) else (none)) else (none)) else (some true))
include h0
theorem same_l0 (a b : List Int) (hl : a.length = b.length) (hb : (a.length : Int) ≤ 4611686018427387904) : Ev (fun k => L k a b (a.length : Int) 0) (decide (a = b)) := by
  have key : ∀ (d i : Nat), i + d = a.length → (∀ p < i, rd a (p : Int) = rd b (p : Int)) → Ev (fun k => L k a b (a.length : Int) (i : Int)) (decide (a = b)) := by
    intro d
    induction d with
    | zero =>
      intro i hi hp
      rw [decide_eq_true (rd_ext hl (fun p h => hp p (by omega)))]
      exact Ev.step (fun k => h0 k _ _ _ _) (Ev.neg (by omega) (Ev.now _))
    | succ d ih =>
      intro i hi hp
      have hw : wrap64 ((i : Int) + 1) = ((i + 1 : Nat) : Int) := by rw [w64 (by omega) (by omega)]; omega
      refine Ev.step (fun k => h0 k _ _ _ _) (Ev.pos (by omega) (Ev.pos (by omega) (Ev.pos (by omega) (Ev.pos (by omega) ?_))))
      by_cases c : rd a (i : Int) = rd b (i : Int)
      · refine Ev.pos c ?_
        rw [hw]
        exact ih (i + 1) (by omega) (fun p h => by
          by_cases e : p = i
          · rw [e]; exact c
          · exact hp p (by omega))
      · rw [decide_eq_false (fun e => c (by rw [e]))]
        exact Ev.neg c (Ev.now _)
  exact key a.length 0 (by omega) (fun p h => by omega)
end
section
variable (L : Nat → List Int → List Int → Int → Option (List Int))
  (h0 : ∀ k x0 x3 x4, L (k + 1) x0 x3 x4 = if x4 ≥ 0 then (if 0 ≤ x4 then (if x4 < (x0.length : Int) then (if x3.length < 17592186044416 then (L k x0 (x3 ++ [rd x0 x4]) (wrap64 (x4 - 1))) else (none)) else (none)) else (none)) else (some x3))
include h0
theorem back_l0 (a : List Int) (hb : (a.length : Int) ≤ 1048576) : Ev (fun k => L k a [] (wrap64 ((a.length : Int) - 1))) a.reverse := by
  have key : ∀ (i : Nat) (acc : List Int), i ≤ a.length → acc.length + i = a.length → acc = (a.drop i).reverse → Ev (fun k => L k a acc ((i : Int) - 1)) a.reverse := by
    intro i
    induction i with
    | zero =>
      intro acc hi hl he
      rw [he, List.drop_zero]
      exact Ev.step (fun k => h0 k _ _ _) (Ev.neg (by omega) (Ev.now _))
    | succ i ih =>
      intro acc hi hl he
      have e : ((i + 1 : Nat) : Int) - 1 = (i : Int) := by omega
      have hw : wrap64 ((i : Int) - 1) = (i : Int) - 1 := w64 (by omega) (by omega)
      rw [e]
      refine Ev.step (fun k => h0 k _ _ _) (Ev.pos (by omega) (Ev.pos (by omega) (Ev.pos (by omega) (Ev.pos (by omega) ?_))))
      rw [hw]
      refine ih (acc ++ [rd a (i : Int)]) (by omega) (by simp; omega) ?_
      rw [he, List.drop_eq_getElem_cons (show i < a.length by omega), List.reverse_cons, rd_el (by omega)]
  have hw : wrap64 ((a.length : Int) - 1) = (a.length : Int) - 1 := w64 (by omega) (by omega)
  rw [hw]
  exact key a.length [] (by omega) (by simp) (by simp)
end

/-! ### bounds -/
theorem in_f (a b c : Int) : impl_in.f a b c = spec_l1In.f a b c := rfl
theorem l1In_f (a b c : Int) : spec_l1In.f a b c = some (decide (b ≤ a ∧ a ≤ c)) := by
  unfold spec_l1In.f
  by_cases h : b ≤ a
  · rw [if_pos h]; simp [h]
  · rw [if_neg h]; simp [h]

/-! ### a list's rest -/
theorem drop_rd {xs : List Int} {i : Nat} {y : Int} {r : List Int} (h : xs.drop i = y :: r) : rd xs (i : Int) = y := by
  have := congrArg (·[0]?) h
  rw [rd_q]
  simp at this
  rw [this]; rfl
theorem drop_tail {xs : List Int} {i : Nat} {y : Int} {r : List Int} (h : xs.drop i = y :: r) : xs.drop (i + 1) = r := by
  rw [← List.tail_drop, h]; rfl
theorem w64_succ {d : Nat} (h : d < 4611686018427387904) : wrap64 ((d : Int) + 1) = ((d + 1 : Nat) : Int) := by rw [w64 (by omega) (by omega)]; omega
theorem w64_sub {a d : Nat} (h : d ≤ a) (ha : a < 4611686018427387904) : wrap64 ((a : Int) - (d : Int)) = ((a - d : Nat) : Int) := by rw [w64 (by omega) (by omega)]; omega

/-! ### the cursor's draws: always there, and within their bounds -/
theorem u64_wraps (n : Int) (h0 : 0 ≤ n) (h1 : n < 2 ^ 64) : IntKind.u64.wrap n = n := by simp [IntKind.wrap, IntKind.bits, IntKind.signed]; omega
theorem u64_range (n : Int) : 0 ≤ IntKind.u64.wrap n ∧ IntKind.u64.wrap n < 18446744073709551616 := by
  simp [IntKind.wrap, IntKind.bits, IntKind.signed]
  omega
theorem and255 (x : Int) (h0 : 0 ≤ x) (h1 : x < 18446744073709551616) : Go.bits .and .u64 x 255 = x % 256 :=
  Go.bits_mask .u64 64 (by decide) u64_wraps 8 (by decide) x h0 (by simpa using h1)
theorem top255 (n : Int) : 0 ≤ wrap64 (Go.bits .and .u64 (IntKind.u64.wrap n / 1099511627776) 255) ∧ wrap64 (Go.bits .and .u64 (IntKind.u64.wrap n / 1099511627776) 255) ≤ 255 := by
  have h := u64_range n
  generalize IntKind.u64.wrap n = m at h
  rw [and255 _ (by omega) (by omega), w64 (by omega) (by omega)]
  omega
def Bytes (l : List Int) : Prop := ∀ i : Nat, 0 ≤ rd l (i : Int) ∧ rd l (i : Int) ≤ 255
theorem Bytes.of {l : List Int} (h : ∀ x ∈ l, (Lit.int .u8 x).wf = true) : Bytes l := by
  intro i
  have : ∀ x ∈ l, 0 ≤ x ∧ x ≤ 255 := fun x hx => by
    have := h x hx
    simp [Lit.wf] at this
    exact ⟨this.1, this.2⟩
  by_cases c : i < l.length
  · have e : rd l (i : Int) = l[i] := by simp [rd, List.getD_eq_getElem?_getD, c]
    rw [e]; exact this _ (List.getElem_mem c)
  · have e : rd l (i : Int) = 0 := by simp [rd, List.getD_eq_getElem?_getD, c]
    rw [e]; omega
theorem next_ev (l : List Int) (hl : Bytes l) (p s : Int) (hp : 0 ≤ p ∧ p ≤ 4611686018427387904) : ∃ v t, spec_l1Cur_next.f l p s = some (v, p + 1, t) ∧ 0 ≤ v ∧ v ≤ 255 := by
  have hw : wrap64 (p + 1) = p + 1 := w64 (by omega) (by omega)
  unfold spec_l1Cur_next.f
  rw [hw]
  by_cases c : p < (l.length : Int)
  · rw [if_pos c, if_pos hp.1, if_pos (by omega)]
    have hb := hl p.toNat
    rw [show ((p.toNat : Nat) : Int) = p by omega] at hb
    refine ⟨_, _, rfl, ?_⟩
    rw [w64 (by omega) (by omega)]
    exact hb
  · rw [if_neg c, if_neg (by omega)]
    exact ⟨_, _, rfl, top255 _⟩
/-- What a draw below n gives. -/
structure Drew (p n : Int) (v q : Int) : Prop where
  lo : 0 ≤ v
  hi : 1 < n → v < n
  one : n ≤ 1 → v = 0
  from_ : p ≤ q
  to_ : q ≤ p + 2
theorem pick_ev (l : List Int) (hl : Bytes l) (p s n : Int) (hp : 0 ≤ p ∧ p ≤ 4611686018427387000) : ∃ v q t, spec_l1Cur_pick.f l p s n = some (v, q, t) ∧ Drew p n v q := by
  unfold spec_l1Cur_pick.f
  by_cases c : n ≤ 1
  · rw [if_pos c]
    exact ⟨0, p, s, rfl, ⟨by omega, by omega, fun _ => rfl, by omega, by omega⟩⟩
  · rw [if_neg c]
    obtain ⟨v, t, e, h0, h1⟩ := next_ev l hl p s (by omega)
    rw [e, Option.bind_some]
    by_cases c2 : n > 200
    · rw [if_pos c2]
      obtain ⟨v2, t2, e2, g0, g1⟩ := next_ev l hl (p + 1) t (by omega)
      rw [e2, Option.bind_some, if_neg (by omega)]
      refine ⟨_, _, _, rfl, ?_⟩
      rw [w64 (n := v * 256) (by omega) (by omega), w64 (by omega) (by omega)]
      exact ⟨Int.tmod_nonneg _ (by omega), fun _ => Int.tmod_lt_of_pos _ (by omega), fun h => absurd h c, by dsimp only; omega, by dsimp only; omega⟩
    · rw [if_neg c2, if_neg (by omega)]
      exact ⟨_, _, _, rfl, ⟨Int.tmod_nonneg _ h0, fun _ => Int.tmod_lt_of_pos _ (by omega), fun h => absurd h c, by dsimp only; omega, by dsimp only; omega⟩⟩
theorem among_ev (l : List Int) (hl : Bytes l) (p s : Int) (hp : 0 ≤ p ∧ p ≤ 4611686018427387000) (xs : List Int) (h : 0 < xs.length) : ∃ v q t, spec_l1Cur_among.f l p s xs = some (v, q, t) ∧ v ∈ xs ∧ p ≤ q ∧ q ≤ p + 2 := by
  obtain ⟨v, q, t, e, d⟩ := pick_ev l hl p s xs.length hp
  have hlt : v < (xs.length : Int) := by
    by_cases c : 1 < (xs.length : Int)
    · exact d.hi c
    · have := d.one (by omega); omega
  have h0 := d.lo
  unfold spec_l1Cur_among.f
  rw [e, Option.bind_some, if_pos h0, if_pos hlt]
  refine ⟨_, _, _, rfl, ?_, d.from_, d.to_⟩
  have e : rd xs v = xs[v.toNat]'(by omega) := by simp [rd, List.getD_eq_getElem?_getD, show v.toNat < xs.length by omega]
  rw [e]
  exact List.getElem_mem _
theorem one_ev (l : List Int) (hl : Bytes l) (p s n : Int) (hp : 0 ≤ p ∧ p ≤ 4611686018427387000) : ∃ b q t, spec_l1Cur_one.f l p s n = some (b, q, t) ∧ p ≤ q ∧ q ≤ p + 2 := by
  obtain ⟨v, q, t, e, d⟩ := pick_ev l hl p s n hp
  unfold spec_l1Cur_one.f
  rw [e, Option.bind_some]
  exact ⟨_, _, _, rfl, d.from_, d.to_⟩
theorem big_f (a b : List Int) : laws_big.f a b = some (decide (1048576 < (a.length : Int) ∨ 1048576 < (a.length : Int) + (b.length : Int))) := by
  unfold laws_big.f
  by_cases c : (a.length : Int) > 1048576
  · rw [if_pos c, decide_eq_true (.inl c)]
  · rw [if_neg c, w64 (by omega) (by omega)]
    congr 1
    apply decide_eq_decide.2
    omega

/-! ### sums of lists -/
def lsum : List Int → Int
  | [] => 0
  | d :: t => d + lsum t
theorem lsum_append : ∀ (l m : List Int), lsum (l ++ m) = lsum l + lsum m := by
  intro l
  induction l with
  | nil => intro m; simp [lsum]
  | cons d t ih => intro m; simp only [List.cons_append, lsum, ih]; omega
theorem lsum_reverse : ∀ (l : List Int), lsum l.reverse = lsum l := by
  intro l
  induction l with
  | nil => rfl
  | cons d t ih => rw [List.reverse_cons, lsum_append, ih]; simp [lsum]; omega
theorem lsum_nonneg : ∀ (l : List Int), (∀ x ∈ l, 0 ≤ x) → 0 ≤ lsum l := by
  intro l
  induction l with
  | nil => intro _; simp [lsum]
  | cons d t ih =>
    intro h
    have := ih (fun x hx => h x (List.mem_cons_of_mem _ hx))
    have := h d List.mem_cons_self
    simp only [lsum]; omega
theorem lsum_le : ∀ (l : List Int) (m : Int), (∀ x ∈ l, x ≤ m) → lsum l ≤ l.length * m := by
  intro l
  induction l with
  | nil => intro m _; simp [lsum]
  | cons d t ih =>
    intro m h
    have h1 := ih m (fun x hx => h x (List.mem_cons_of_mem _ hx))
    have h2 := h d List.mem_cons_self
    simp only [lsum, List.length_cons]
    rw [show ((t.length + 1 : Nat) : Int) * m = t.length * m + m by rw [Int.natCast_add, Int.add_mul]; simp]
    omega

/-! #### loops that gather -/
section
variable {β : Type} (L : Nat → Int → List Int → Int → Int → Option β) (op : Int → Int → Int) (E : Nat → Int → Option β)
  (h0 : ∀ k a xs n i, L (k + 1) a xs n i = if i < n then (if 0 ≤ i then (if i < (xs.length : Int) then (L k (op a (rd xs i)) xs n (wrap64 (i + 1))) else (none)) else (none)) else (E k a))
include h0
theorem foldE_l0 (xs : List Int) (a : Int) (R : β) (hb : (xs.length : Int) ≤ 4611686018427387904) (hE : Ev (fun k => E k (xs.foldl op a)) R) : Ev (fun k => L k a xs (xs.length : Int) 0) R := by
  have key : ∀ (r : List Int) (i : Nat) (a : Int), xs.drop i = r → i ≤ xs.length → Ev (fun k => E k (r.foldl op a)) R → Ev (fun k => L k a xs (xs.length : Int) (i : Int)) R := by
    intro r
    induction r with
    | nil =>
      intro i a he hi hE
      have : xs.length ≤ i := List.drop_eq_nil_iff.1 he
      exact Ev.step (fun k => h0 k _ _ _ _) (Ev.neg (by omega) hE)
    | cons y r ih =>
      intro i a he hi hE
      have hlt : i < xs.length := by
        rcases Nat.lt_or_ge i xs.length with h | h
        · exact h
        · rw [List.drop_eq_nil_of_le h] at he; cases he
      have hw : wrap64 ((i : Int) + 1) = ((i + 1 : Nat) : Int) := by rw [w64 (by omega) (by omega)]; omega
      refine Ev.step (fun k => h0 k _ _ _ _) (Ev.pos (by omega) (Ev.pos (by omega) (Ev.pos (by omega) ?_)))
      rw [hw, drop_rd he]
      exact ih (i + 1) _ (drop_tail he) (by omega) hE
  exact key xs 0 a rfl (by omega) hE
end
theorem fold_l0 (L : Nat → Int → List Int → Int → Int → Option Int) (op : Int → Int → Int)
    (h0 : ∀ k a xs n i, L (k + 1) a xs n i = if i < n then (if 0 ≤ i then (if i < (xs.length : Int) then (L k (op a (rd xs i)) xs n (wrap64 (i + 1))) else (none)) else (none)) else (some a))
    (xs : List Int) (a : Int) (hb : (xs.length : Int) ≤ 4611686018427387904) : Ev (fun k => L k a xs (xs.length : Int) 0) (xs.foldl op a) :=
  foldE_l0 L op (fun _ a => some a) h0 xs a _ hb (Ev.now _)
theorem foldw_sum : ∀ (l : List Int) (a : Int), 0 ≤ a → (∀ x ∈ l, 0 ≤ x) → a + lsum l < 9223372036854775808 → l.foldl (fun a d => wrap64 (a + d)) a = a + lsum l := by
  intro l
  induction l with
  | nil => intro a _ _ _; simp [lsum]
  | cons d t ih =>
    intro a h0 h h1
    have hd := h d List.mem_cons_self
    have ht := lsum_nonneg t (fun x hx => h x (List.mem_cons_of_mem _ hx))
    simp only [lsum] at h1
    simp only [List.foldl_cons, lsum]
    rw [w64 (by omega) (by omega), ih (a + d) (by omega) (fun x hx => h x (List.mem_cons_of_mem _ hx)) (by omega)]
    omega
theorem lsum_set : ∀ (c : List Int) (i : Nat) (v : Int), i < c.length → lsum (c.set i v) = lsum c - rd c (i : Int) + v := by
  intro c
  induction c with
  | nil => intro i v h; cases h
  | cons d t ih =>
    intro i v h
    cases i with
    | zero => simp [lsum, rd]; omega
    | succ i =>
      have := ih i v (by simpa using h)
      rw [rd_el (by simpa using h)] at this
      rw [rd_el h]
      simp only [List.set_cons_succ, lsum, this, List.getElem_cons_succ]
      omega
theorem lsum_mem : ∀ (c : List Int), (∀ x ∈ c, 0 ≤ x) → ∀ x ∈ c, x ≤ lsum c := by
  intro c
  induction c with
  | nil => intro _ x hx; cases hx
  | cons d t ih =>
    intro h x hx
    have h1 := lsum_nonneg t (fun x hx => h x (List.mem_cons_of_mem _ hx))
    have h2 := h d List.mem_cons_self
    simp only [lsum]
    rcases List.mem_cons.1 hx with rfl | hx
    · omega
    · have := ih (fun x hx => h x (List.mem_cons_of_mem _ hx)) x hx
      omega
theorem lsum_zeros : ∀ n, lsum (List.replicate n 0) = 0 := by
  intro n
  induction n with
  | zero => rfl
  | succ n ih => rw [List.replicate_succ]; simp only [lsum]; omega

/-! ### counts of a list's own numbers -/
/-- Counts, with the numbers of a list counted in that are below n. -/
def tincs (n : Nat) : List Int → List Int → List Int
  | c, [] => c
  | c, d :: t => tincs n (if 0 ≤ d ∧ d ≤ (n : Int) - 1 then c.set d.toNat (wrap64 (rd c d + 1)) else c) t
def tellc (l : List Int) : List Int := tincs l.length (List.replicate l.length 0) l
theorem tincs_length (n : Nat) : ∀ (l c : List Int), (tincs n c l).length = c.length := by
  intro l
  induction l with
  | nil => intro c; rfl
  | cons d t ih =>
    intro c
    rw [tincs, ih]
    split
    · simp
    · rfl
theorem tellc_length (l : List Int) : (tellc l).length = l.length := by unfold tellc; rw [tincs_length, List.length_replicate]
section
variable (L : Nat → List Int → List Int → List Int → Int → Int → Option (List Int))
  (h0 : ∀ k x0 c xs n i, L (k + 1) x0 c xs n i = if i < n then (if 0 ≤ i then (if i < (xs.length : Int) then ((spec_l1In.f (rd xs i) 0 (wrap64 ((x0.length : Int) - 1))).bind fun t => (if t = true then (if 0 ≤ (rd xs i) then (if (rd xs i) < (c.length : Int) then (L k x0 (c.set ((rd xs i) : Int).toNat (wrap64 ((rd c (rd xs i)) + 1))) xs n (wrap64 (i + 1))) else (none)) else (none)) else (L k x0 c xs n (wrap64 (i + 1))))) else (none)) else (none)) else (some c))
include h0
theorem tell_l0 (x0 xs c : List Int) (hb : (xs.length : Int) ≤ 1048576) (h1 : (x0.length : Int) ≤ 1048576) (hc : c.length = x0.length) : Ev (fun k => L k x0 c xs (xs.length : Int) 0) (tincs x0.length c xs) := by
  have hw0 : wrap64 ((x0.length : Int) - 1) = (x0.length : Int) - 1 := w64 (by omega) (by omega)
  have key : ∀ (r : List Int) (i : Nat) (c : List Int), xs.drop i = r → i ≤ xs.length → c.length = x0.length → Ev (fun k => L k x0 c xs (xs.length : Int) (i : Int)) (tincs x0.length c r) := by
    intro r
    induction r with
    | nil =>
      intro i c he hi _
      have : xs.length ≤ i := List.drop_eq_nil_iff.1 he
      exact Ev.step (fun k => h0 k _ _ _ _ _) (Ev.neg (by omega) (Ev.now _))
    | cons y r ih =>
      intro i c he hi hc
      have hlt : i < xs.length := by
        rcases Nat.lt_or_ge i xs.length with h | h
        · exact h
        · rw [List.drop_eq_nil_of_le h] at he; cases he
      have hw : wrap64 ((i : Int) + 1) = ((i + 1 : Nat) : Int) := by rw [w64 (by omega) (by omega)]; omega
      refine Ev.step (fun k => h0 k _ _ _ _ _) (Ev.pos (by omega) (Ev.pos (by omega) (Ev.pos (by omega) ?_)))
      rw [hw, drop_rd he, hw0]
      refine Ev.pure_bind (l1In_f _ _ _) ?_
      rw [tincs]
      by_cases cc : 0 ≤ y ∧ y ≤ (x0.length : Int) - 1
      · rw [if_pos cc]
        refine Ev.pos (decide_eq_true cc) (Ev.pos cc.1 (Ev.pos (by omega) ?_))
        exact ih (i + 1) _ (drop_tail he) (by omega) (by simpa using hc)
      · rw [if_neg cc]
        exact Ev.neg (by simpa using cc) (ih (i + 1) _ (drop_tail he) (by omega) hc)
  exact key xs 0 c rfl (by omega) hc
end
/-- How often a number is counted. -/
theorem tincs_rd (n : Nat) : ∀ (l c : List Int) (i : Nat), i < n → c.length = n → (∀ x ∈ c, 0 ≤ x ∧ x + l.length ≤ 1000000) → rd (tincs n c l) (i : Int) = rd c (i : Int) + (l.count (i : Int) : Int) := by
  intro l
  induction l with
  | nil => intro c i _ _ _; simp [tincs]
  | cons d t ih =>
    intro c i hi hc hb
    rw [List.length_cons] at hb
    rw [tincs, List.count_cons]
    by_cases cc : 0 ≤ d ∧ d ≤ (n : Int) - 1
    · rw [if_pos cc]
      have hlt : d.toNat < c.length := by omega
      have e : rd c d = rd c ((d.toNat : Nat) : Int) := by rw [show ((d.toNat : Nat) : Int) = d by omega]
      have hm : rd c d ∈ c := by rw [e]; exact rd_mem hlt
      have hbd := hb _ hm
      have hw : wrap64 (rd c d + 1) = rd c d + 1 := w64 (by omega) (by omega)
      rw [hw, ih _ i hi (by simpa using hc) (fun x hx => by
        rcases List.mem_or_eq_of_mem_set hx with h | h
        · have := hb x h; omega
        · omega), rd_set c d.toNat i _ hlt]
      by_cases ci : i = d.toNat
      · have e2 : d = (i : Int) := by omega
        rw [if_pos ci, e2]; simp; omega
      · have e2 : ¬ (d == (i : Int)) = true := by rw [beq_iff_eq]; omega
        rw [if_neg ci, if_neg e2]; simp
    · have e2 : ¬ (d == (i : Int)) = true := by rw [beq_iff_eq]; omega
      rw [if_neg cc, ih c i hi hc (fun x hx => by have := hb x hx; omega), if_neg e2]
      simp
theorem tellc_rd {l : List Int} (hl : l.length ≤ 1000) {i : Nat} (hi : i < l.length) : rd (tellc l) (i : Int) = (l.count (i : Int) : Int) := by
  unfold tellc
  rw [tincs_rd l.length l _ i hi (by simp) (fun x hx => by rw [(List.mem_replicate.1 hx).2]; omega)]
  have : rd (List.replicate l.length (0 : Int)) (i : Int) = 0 := by rw [rd_el (by simpa using hi)]; simp
  rw [this]; omega
/-- A list that tells itself has no number as great as its length. -/
theorem tells_below {l : List Int} (hl : l.length ≤ 1000) (h0 : ∀ x ∈ l, 0 ≤ x) (h : tellc l = l) : ∀ x ∈ l, x < (l.length : Int) := by
  intro x hx
  obtain ⟨i, hi, hxi⟩ := List.mem_iff_getElem.1 hx
  have hr := tellc_rd hl hi
  rw [h, rd_el hi, hxi] at hr
  have hc := List.count_le_length (a := (i : Int)) (l := l)
  rcases Nat.lt_or_ge (l.count (i : Int)) l.length with h1 | h1
  · omega
  · have h2 : l.count (i : Int) = l.length := by omega
    have h3 := List.count_eq_length.1 h2 x hx
    omega
theorem tincs_sum (n : Nat) : ∀ (l c : List Int), c.length = n → (∀ x ∈ l, 0 ≤ x ∧ x < (n : Int)) → (∀ x ∈ c, 0 ≤ x) → lsum c + l.length ≤ 1000000 → lsum (tincs n c l) = lsum c + l.length := by
  intro l
  induction l with
  | nil => intro c _ _ _ _; simp [tincs]
  | cons d t ih =>
    intro c hc hl h0 hs
    have hd := hl d List.mem_cons_self
    have e : rd c d = rd c ((d.toNat : Nat) : Int) := by rw [show ((d.toNat : Nat) : Int) = d by omega]
    have hlt : d.toNat < c.length := by omega
    have hm : rd c d ∈ c := by rw [e]; exact rd_mem hlt
    have h1 := lsum_mem c h0 _ hm
    have h2 := h0 _ hm
    rw [List.length_cons] at hs
    have hw : wrap64 (rd c d + 1) = rd c d + 1 := w64 (by omega) (by omega)
    have hset := lsum_set c d.toNat (rd c d + 1) hlt
    rw [← e] at hset
    rw [tincs, if_pos (by omega), hw, ih _ (by simpa using hc) (fun x hx => hl x (List.mem_cons_of_mem _ hx)) (fun x hx => by
      rcases List.mem_or_eq_of_mem_set hx with h | h
      · exact h0 x h
      · omega) (by omega), List.length_cons]
    omega
/-- A list that tells itself adds to its length. -/
theorem tells_sum {l : List Int} (hl : l.length ≤ 1000) (h0 : ∀ x ∈ l, 0 ≤ x) (h : tellc l = l) : lsum l = l.length := by
  have hb := tells_below hl h0 h
  have hs := tincs_sum l.length l (List.replicate l.length 0) (by simp) (fun x hx => ⟨h0 x hx, hb x hx⟩) (fun x hx => by rw [(List.mem_replicate.1 hx).2]; omega) (by rw [lsum_zeros]; omega)
  rw [lsum_zeros] at hs
  have e : tincs l.length (List.replicate l.length 0) l = l := h
  rw [e] at hs
  omega

/-! ### all lists that tell themselves: the program's tree and the reference's -/
/-- All lists that tell themselves, go on a list with m numbers more, and add to so much more. -/
def leafs : Nat → List Int → Nat → List (List Int)
  | 0, l, left => if left = 0 ∧ tellc l = l then [l] else []
  | m + 1, l, left => (List.range (left + 1)).flatMap (fun (d : Nat) => leafs m (l ++ [(d : Int)]) (left - d))
/-- The same, for numbers below n. -/
def sleafs (n : Nat) : Nat → List Int → List (List Int)
  | 0, l => if lsum l > (n : Int) then [] else if tellc l = l then [l] else []
  | m + 1, l => if lsum l > (n : Int) then [] else (List.range n).flatMap (fun (d : Nat) => sleafs n m (l ++ [(d : Int)]))
theorem sleafs_over {n m : Nat} {l : List Int} (h : lsum l > (n : Int)) : sleafs n m l = [] := by
  cases m with
  | zero => rw [sleafs, if_pos h]
  | succ m => rw [sleafs, if_pos h]
theorem flat_nil {f : Nat → List (List Int)} : ∀ (l : List Nat), (∀ d ∈ l, f d = []) → l.flatMap f = [] := by
  intro l
  induction l with
  | nil => intro _; rfl
  | cons x t ih => intro h; rw [List.flatMap_cons, h x List.mem_cons_self, ih (fun d hd => h d (List.mem_cons_of_mem _ hd))]; rfl
theorem flat_congr {f g : Nat → List (List Int)} : ∀ (l : List Nat), (∀ d ∈ l, f d = g d) → l.flatMap f = l.flatMap g := by
  intro l
  induction l with
  | nil => intro _; rfl
  | cons x t ih => intro h; rw [List.flatMap_cons, List.flatMap_cons, h x List.mem_cons_self, ih (fun d hd => h d (List.mem_cons_of_mem _ hd))]
theorem flat_cut {f : Nat → List (List Int)} {a b : Nat} (hab : a ≤ b) (h : ∀ d, a ≤ d → d < b → f d = []) : (List.range b).flatMap f = (List.range a).flatMap f := by
  have e : List.range b = List.range a ++ (List.range (b - a)).map (a + ·) := by
    have := List.range_add (n := a) (m := b - a)
    rwa [show a + (b - a) = b by omega] at this
  rw [e, List.flatMap_append, flat_nil ((List.range (b - a)).map (a + ·)) (fun d hd => by
    obtain ⟨x, hx, rfl⟩ := List.mem_map.1 hd
    have := List.mem_range.1 hx
    exact h _ (by omega) (by omega)), List.append_nil]
/-- Where a number is as great as the whole, nothing tells itself. -/
theorem leafs_great : ∀ (m : Nat) (l : List Int) (left : Nat), l.length + m ≤ 1000 → (∀ x ∈ l, 0 ≤ x) → (∃ x ∈ l, ((l.length + m : Nat) : Int) ≤ x) → leafs m l left = [] := by
  intro m
  induction m with
  | zero =>
    intro l left hl h0 ⟨x, hx, hge⟩
    rw [leafs, if_neg]
    rintro ⟨_, h⟩
    have := tells_below (by omega) h0 h x hx
    omega
  | succ m ih =>
    intro l left hl h0 ⟨x, hx, hge⟩
    rw [leafs]
    refine flat_nil _ (fun d _ => ih (l ++ [(d : Int)]) _ (by simp; omega) (fun y hy => ?_) ⟨x, List.mem_append_left _ hx, by simp; omega⟩)
    rcases List.mem_append.1 hy with h | h
    · exact h0 y h
    · simp at h; omega
theorem lsum_snoc (l : List Int) (d : Int) : lsum (l ++ [d]) = lsum l + d := by rw [lsum_append]; simp [lsum]
theorem leafs_eq (n : Nat) (hn : n ≤ 1000) : ∀ (m : Nat) (l : List Int) (left : Nat), l.length + m = n → (∀ x ∈ l, 0 ≤ x ∧ x < (n : Int)) → lsum l + left = (n : Int) → sleafs n m l = leafs m l left := by
  intro m
  induction m with
  | zero =>
    intro l left hl h0 hs
    rw [sleafs, leafs, if_neg (by omega)]
    by_cases c : tellc l = l
    · have h2 := tells_sum (by omega) (fun x hx => (h0 x hx).1) c
      rw [if_pos c, if_pos ⟨by omega, c⟩]
    · rw [if_neg c, if_neg (fun h => c h.2)]
  | succ m ih =>
    intro l left hl h0 hs
    have hs0 := lsum_nonneg l (fun x hx => (h0 x hx).1)
    rw [sleafs, leafs, if_neg (by omega)]
    have h1 : ∀ d ∈ List.range n, sleafs n m (l ++ [(d : Int)]) = if d ≤ left then leafs m (l ++ [(d : Int)]) (left - d) else [] := by
      intro d hd
      have hdn := List.mem_range.1 hd
      by_cases c : d ≤ left
      · rw [if_pos c]
        refine ih _ _ (by simp; omega) (fun x hx => ?_) (by rw [lsum_snoc]; omega)
        rcases List.mem_append.1 hx with h | h
        · exact h0 x h
        · simp at h; omega
      · rw [if_neg c]
        exact sleafs_over (by rw [lsum_snoc]; omega)
    have h2 : ∀ d ∈ List.range (left + 1), leafs m (l ++ [(d : Int)]) (left - d) = if d ≤ left then leafs m (l ++ [(d : Int)]) (left - d) else [] := by
      intro d hd
      have := List.mem_range.1 hd
      rw [if_pos (by omega)]
    rw [flat_congr _ h1, flat_congr _ h2]
    by_cases c : left + 1 ≤ n
    · exact flat_cut c (fun d h3 _ => by rw [if_neg (by omega)])
    · refine (flat_cut (by omega) (fun d h3 h4 => ?_)).symm
      rw [if_pos (by omega)]
      refine leafs_great m _ _ (by simp; omega) (fun x hx => ?_) ⟨(d : Int), by simp, by simp; omega⟩
      rcases List.mem_append.1 hx with h | h
      · exact (h0 x h).1
      · simp at h; omega
theorem flat_length {f : Nat → List (List Int)} {b : Nat} : ∀ (l : List Nat), (∀ d ∈ l, (f d).length ≤ b) → (l.flatMap f).length ≤ l.length * b := by
  intro l
  induction l with
  | nil => intro _; simp
  | cons x t ih =>
    intro h
    have h1 := h x List.mem_cons_self
    have h2 := ih (fun d hd => h d (List.mem_cons_of_mem _ hd))
    rw [List.flatMap_cons, List.length_append, List.length_cons, Nat.add_mul]
    omega
theorem leafs_length : ∀ (m : Nat) (l : List Int) (left : Nat), left ≤ 10 → (leafs m l left).length ≤ 11 ^ m := by
  intro m
  induction m with
  | zero =>
    intro l left _
    rw [leafs]
    split <;> simp
  | succ m ih =>
    intro l left h
    rw [leafs, Nat.pow_succ]
    have h1 := flat_length (b := 11 ^ m) (List.range (left + 1)) (fun d _ => ih (l ++ [(d : Int)]) (left - d) (by omega))
    rw [List.length_range] at h1
    have h2 : (left + 1) * 11 ^ m ≤ 11 * 11 ^ m := Nat.mul_le_mul_right _ (by omega)
    rw [Nat.mul_comm (11 ^ m) 11]
    omega
theorem leafs_row : ∀ (m : Nat) (l : List Int) (left : Nat), ∀ y ∈ leafs m l left, y.length = l.length + m := by
  intro m
  induction m with
  | zero =>
    intro l left y hy
    rw [leafs] at hy
    split at hy
    · simp at hy; subst hy; simp
    · cases hy
  | succ m ih =>
    intro l left y hy
    rw [leafs] at hy
    obtain ⟨d, _, h⟩ := List.mem_flatMap.1 hy
    have := ih _ _ y h
    rw [this]; simp; omega

/-! ### what the two functions make -/
theorem equal_ev (a b : List Int) (hb : (a.length : Int) ≤ 4611686018427387904) (hl : a.length = b.length) : Ev (fun k => slices_Equal_int_int.f k a b) (decide (a = b)) :=
  Ev.pos (by omega) (same_l0 slices_Equal_int_int.l0 (fun k x0 x1 x12 x13 => by rw [slices_Equal_int_int.l0]) a b hl hb)
theorem l1Same_ev (a b : List Int) (hb : (a.length : Int) ≤ 4611686018427387904) (hl : a.length = b.length) : Ev (fun k => spec_l1Same.f k a b) (decide (a = b)) :=
  Ev.pos (by omega) (same_l0 spec_l1Same.l0 (fun k x0 x1 x12 x13 => by rw [spec_l1Same.l0]) a b hl hb)
theorem tellCounts_ev (l : List Int) (h : (l.length : Int) ≤ 1000) : Ev (fun k => impl_tellCounts.f k l) (tellc l) :=
  Ev.pos (by omega) (Ev.pos (by omega) (by
    have := tell_l0 impl_tellCounts.l0 (fun k x0 c xs n i => by rw [impl_tellCounts.l0]; rfl) l l (List.replicate l.length 0) (by omega) (by omega) (by simp)
    rw [show ((l.length : Int)).toNat = l.length by omega]; exact this))
theorem teCounts_ev (l : List Int) (h : (l.length : Int) ≤ 1000) : Ev (fun k => spec_teCounts.f k l) (tellc l) :=
  Ev.pos (by omega) (Ev.pos (by omega) (by
    have := tell_l0 spec_teCounts.l0 (fun k x0 c xs n i => by rw [spec_teCounts.l0]) l l (List.replicate l.length 0) (by omega) (by omega) (by simp)
    rw [show ((l.length : Int)).toNat = l.length by omega]; exact this))
theorem dgSumL_ev (l : List Int) (h : ∀ x ∈ l, 0 ≤ x) (hs : lsum l < 9223372036854775808) (hb : (l.length : Int) ≤ 4611686018427387904) : Ev (fun k => spec_dgSum.f k l) (lsum l) := by
  have h2 := fold_l0 spec_dgSum.l0 (fun a d => wrap64 (a + d)) (fun k a xs n i => by rw [spec_dgSum.l0]) l 0 hb
  rw [foldw_sum _ 0 (by omega) h (by omega), Int.zero_add] at h2
  exact h2
theorem own_ev (l : List Int) (h : l.length < 17592186044416) : spec_l1Own.f l = some l := by
  unfold spec_l1Own.f
  rw [Option.bind_some, if_pos (by simpa using h)]; rfl
theorem pow11 {m : Nat} (h : m ≤ 10) : 11 ^ m ≤ 25937424601 := by
  have : ∀ i : Fin 11, 11 ^ i.val ≤ 25937424601 := by decide
  exact this ⟨m, by omega⟩
theorem on_ev (n : Nat) (hn : n ≤ 10) : ∀ (m : Nat) (l : List Int) (left : Nat) (acc : List (List Int)), l.length + m = n → left ≤ 10 → acc.length + 11 ^ m ≤ 1000000000000 → Ev (fun k => impl_SelfTelling.on k (n : Int) l (left : Int) acc) (acc ++ leafs m l left) := by
  intro m
  induction m with
  | zero =>
    intro l left acc hl hleft hacc
    refine Ev.step (fun k => by rw [impl_SelfTelling.on]) (Ev.pos (by omega) ?_)
    rw [leafs]
    by_cases c : left = 0
    · refine Ev.pos (by omega) (Ev.bind1 (tellCounts_ev l (by omega)) (Ev.bind1 (equal_ev (tellc l) l (by rw [tellc_length]; omega) (tellc_length l)) ?_))
      by_cases c2 : tellc l = l
      · have hv : (if left = 0 ∧ tellc l = l then [l] else []) = [l] := if_pos ⟨c, c2⟩
        rw [hv]
        refine Ev.pos (decide_eq_true c2) (Ev.pure_bind (show slices_Clone_int_int.f l = some l from by unfold slices_Clone_int_int.f; rw [if_pos (by omega)]) ?_)
        exact Ev.pos (by simp at hacc; omega) (Ev.now _)
      · have hv : (if left = 0 ∧ tellc l = l then [l] else []) = [] := if_neg (fun h => c2 h.2)
        rw [hv, List.append_nil]
        exact Ev.neg (by simpa using c2) (Ev.now _)
    · have hv : (if left = 0 ∧ tellc l = l then [l] else []) = [] := if_neg (fun h => c h.1)
      rw [hv, List.append_nil]
      exact Ev.neg (by omega) (Ev.now _)
  | succ m ih =>
    intro l left acc hl hleft hacc
    refine Ev.step (fun k => by rw [impl_SelfTelling.on]) (Ev.neg (by omega) ?_)
    have key : ∀ (r d : Nat) (acc : List (List Int)), d + r = left + 1 → acc.length + r * 11 ^ m ≤ 1000000000000 → Ev (fun k => impl_SelfTelling.lp k (n : Int) l (left : Int) (d : Int) acc) (acc ++ ((List.range r).map (d + ·)).flatMap (fun (d : Nat) => leafs m (l ++ [(d : Int)]) (left - d))) := by
      intro r
      induction r with
      | zero =>
        intro d acc hd _
        rw [List.range_zero, List.map_nil, List.flatMap_nil, List.append_nil]
        exact Ev.step (fun k => by rw [impl_SelfTelling.lp]) (Ev.neg (by omega) (Ev.now _))
      | succ r ih2 =>
        intro d acc hd ha
        have hp := pow11 (show m ≤ 10 by omega)
        rw [Nat.add_mul, Nat.one_mul] at ha
        have hlen := leafs_length m (l ++ [(d : Int)]) (left - d) (by omega)
        refine Ev.step (fun k => by rw [impl_SelfTelling.lp]) (Ev.pos (by omega) (Ev.pos (by omega) ?_))
        rw [w64_sub (by omega) (by omega), w64_succ (by omega)]
        refine Ev.bind1 (ih (l ++ [(d : Int)]) (left - d) acc (by simp; omega) (by omega) (by omega)) ?_
        have := ih2 (d + 1) (acc ++ leafs m (l ++ [(d : Int)]) (left - d)) (by omega) (by rw [List.length_append]; omega)
        have e : ((List.range (r + 1)).map (d + ·)) = d :: ((List.range r).map (d + 1 + ·)) := by
          rw [List.range_succ_eq_map, List.map_cons, List.map_map, Nat.add_zero]
          congr 1
          refine List.map_congr_left (fun x _ => ?_)
          show d + (x + 1) = d + 1 + x
          omega
        rw [e, List.flatMap_cons, ← List.append_assoc]
        exact this
    have hp : 11 ^ (m + 1) = 11 ^ m * 11 := Nat.pow_succ _ _
    have h1 : (left + 1) * 11 ^ m ≤ 11 * 11 ^ m := Nat.mul_le_mul_right _ (by omega)
    have := key (left + 1) 0 acc (by omega) (by omega)
    rw [leafs]
    simpa using this
theorem teSelf_ev (n : Nat) (hn : n ≤ 10) : ∀ (m : Nat) (l : List Int), l.length + m = n → (∀ x ∈ l, 0 ≤ x ∧ x < (n : Int)) → Ev (fun k => spec_teSelf.f k l (n : Int)) (sleafs n m l) ∧ (sleafs n m l).length ≤ 11 ^ m := by
  intro m
  induction m with
  | zero =>
    intro l hl h0
    have hs := lsum_le l (n : Int) (fun x hx => by have := h0 x hx; omega)
    have hs2 : (l.length : Int) * (n : Int) ≤ 10 * 10 := by
      have a1 : (l.length : Int) * (n : Int) ≤ 10 * (n : Int) := Int.mul_le_mul_of_nonneg_right (by omega) (by omega)
      omega
    refine ⟨Ev.step (fun k => by rw [spec_teSelf.f]) (Ev.bind1 (dgSumL_ev l (fun x hx => (h0 x hx).1) (by omega) (by omega)) ?_), ?_⟩
    · rw [sleafs]
      by_cases c : lsum l > (n : Int)
      · rw [if_pos c]; exact Ev.pos c (Ev.now _)
      · rw [if_neg c]
        refine Ev.neg c (Ev.pos (by omega) (Ev.bind1 (teCounts_ev l (by omega)) (Ev.bind1 (l1Same_ev (tellc l) l (by rw [tellc_length]; omega) (tellc_length l)) ?_)))
        by_cases c2 : tellc l = l
        · rw [if_pos c2]
          exact Ev.pos (decide_eq_true c2) (Ev.pure_bind (own_ev l (by omega)) (Ev.now _))
        · rw [if_neg c2]
          exact Ev.neg (by simpa using c2) (Ev.now _)
    · rw [sleafs]
      split
      · simp
      · split <;> simp
  | succ m ih =>
    intro l hl h0
    have hs := lsum_le l (n : Int) (fun x hx => by have := h0 x hx; omega)
    have hs2 : (l.length : Int) * (n : Int) ≤ 10 * 10 := by
      have a1 : (l.length : Int) * (n : Int) ≤ 10 * (n : Int) := Int.mul_le_mul_of_nonneg_right (by omega) (by omega)
      omega
    have hp := pow11 (show m ≤ 10 by omega)
    have hps : 11 ^ (m + 1) = 11 ^ m * 11 := Nat.pow_succ _ _
    have hin : ∀ d < n, ∀ x ∈ l ++ [(d : Int)], 0 ≤ x ∧ x < (n : Int) := by
      intro d hd x hx
      rcases List.mem_append.1 hx with h | h
      · exact h0 x h
      · simp at h; omega
    have key : ∀ (r d : Nat) (acc : List (List Int)), d + r = n → acc.length + r * 11 ^ m ≤ 1000000000000 → Ev (fun k => spec_teSelf.l0 k l (n : Int) acc (d : Int)) (acc ++ ((List.range r).map (d + ·)).flatMap (fun (d : Nat) => sleafs n m (l ++ [(d : Int)]))) := by
      intro r
      induction r with
      | zero =>
        intro d acc hd _
        rw [List.range_zero, List.map_nil, List.flatMap_nil, List.append_nil]
        exact Ev.step (fun k => by rw [spec_teSelf.l0]) (Ev.neg (by omega) (Ev.now _))
      | succ r ih2 =>
        intro d acc hd ha
        rw [Nat.add_mul, Nat.one_mul] at ha
        obtain ⟨e1, e2⟩ := ih (l ++ [(d : Int)]) (by simp; omega) (hin d (by omega))
        have hll : l.length < 17592186044416 := by omega
        have hcap : acc.length + (sleafs n m (l ++ [(d : Int)])).length < 5864062014805 := by omega
        refine Ev.step (fun k => by rw [spec_teSelf.l0]) (Ev.pos (by omega) (Ev.pure_bind (own_ev l hll) (Ev.pos hll (Ev.bind1 e1 (Ev.pos hcap ?_)))))
        rw [w64_succ (by omega)]
        have := ih2 (d + 1) (acc ++ sleafs n m (l ++ [(d : Int)])) (by omega) (by rw [List.length_append]; omega)
        have e : ((List.range (r + 1)).map (d + ·)) = d :: ((List.range r).map (d + 1 + ·)) := by
          rw [List.range_succ_eq_map, List.map_cons, List.map_map, Nat.add_zero]
          congr 1
          refine List.map_congr_left (fun x _ => ?_)
          show d + (x + 1) = d + 1 + x
          omega
        rw [e, List.flatMap_cons, ← List.append_assoc]
        exact this
    have h1 : n * 11 ^ m ≤ 11 * 11 ^ m := Nat.mul_le_mul_right _ (by omega)
    refine ⟨Ev.step (fun k => by rw [spec_teSelf.f]) (Ev.bind1 (dgSumL_ev l (fun x hx => (h0 x hx).1) (by omega) (by omega)) ?_), ?_⟩
    · rw [sleafs]
      by_cases c : lsum l > (n : Int)
      · rw [if_pos c]; exact Ev.pos c (Ev.now _)
      · rw [if_neg c]
        refine Ev.neg c (Ev.neg (by omega) ?_)
        have := key n 0 [] (by omega) (by simp; omega)
        simpa using this
    · rw [sleafs]
      split
      · simp
      · have h2 := flat_length (b := 11 ^ m) (List.range n) (fun d hd => (ih (l ++ [(d : Int)]) (by simp; omega) (hin d (List.mem_range.1 hd))).2)
        rw [List.length_range] at h2
        omega
/-- What both return. -/
theorem selfTelling_ev (a : Int) : ∃ (t : List (List Int)) (b : Bool), Ev (fun k => spec_SelfTelling.f k a) (t, b) ∧ Ev (fun k => impl_SelfTelling.f k a) (t, b) ∧ (b = true → 1 ≤ a ∧ a ≤ 10 ∧ t = leafs a.toNat [] a.toNat) ∧ (b = false → t = [] ∧ ¬ (1 ≤ a ∧ a ≤ 10)) := by
  by_cases c : 1 ≤ a ∧ a ≤ 10
  · have ha : ((a.toNat : Nat) : Int) = a := by omega
    have e1 := (teSelf_ev a.toNat (by omega) a.toNat [] (by simp) (fun x hx => by cases hx)).1
    rw [leafs_eq a.toNat (by omega) a.toNat [] a.toNat (by simp) (fun x hx => by cases hx) (by simp [lsum]), ha] at e1
    have e2 := on_ev a.toNat (by omega) a.toNat [] a.toNat [] (by simp) (by omega) (by have := pow11 (show a.toNat ≤ 10 by omega); simp; omega)
    rw [ha, List.nil_append] at e2
    refine ⟨_, true, Ev.pure_bind (l1In_f a 1 10) (Ev.pos (decide_eq_true c) (Ev.bind1 e1 (Ev.now _))), Ev.pure_bind ((in_f a 1 10).trans (l1In_f a 1 10)) (Ev.pos (decide_eq_true c) (Ev.bind1 e2 (Ev.now _))), fun _ => ⟨c.1, c.2, rfl⟩, (fun h => by cases h)⟩
  · exact ⟨[], false, Ev.pure_bind (l1In_f a 1 10) (Ev.neg (by simpa using c) (Ev.now _)), Ev.pure_bind ((in_f a 1 10).trans (l1In_f a 1 10)) (Ev.neg (by simpa using c) (Ev.now _)), (fun h => by cases h), fun _ => ⟨rfl, c⟩⟩

/-! ### which lists tell themselves -/
theorem mem_leafs : ∀ (m : Nat) (l : List Int) (left : Nat) (y : List Int), y ∈ leafs m l left → ∃ s, y = l ++ s ∧ s.length = m ∧ (∀ x ∈ s, 0 ≤ x) ∧ lsum s = (left : Int) ∧ tellc y = y := by
  intro m
  induction m with
  | zero =>
    intro l left y hy
    rw [leafs] at hy
    by_cases c : left = 0 ∧ tellc l = l
    · rw [if_pos c] at hy
      simp at hy
      subst hy
      exact ⟨[], by simp, rfl, (fun x hx => by cases hx), (by rw [c.1]; rfl), c.2⟩
    · rw [if_neg c] at hy; cases hy
  | succ m ih =>
    intro l left y hy
    rw [leafs] at hy
    obtain ⟨d, hd, h⟩ := List.mem_flatMap.1 hy
    have hdl := List.mem_range.1 hd
    obtain ⟨s, e1, e2, e3, e4, e5⟩ := ih _ _ y h
    refine ⟨(d : Int) :: s, by rw [e1]; simp, by simp [e2], fun x hx => ?_, ?_, e5⟩
    · rcases List.mem_cons.1 hx with rfl | hx
      · omega
      · exact e3 x hx
    · simp only [lsum]; omega
theorem leafs_mem : ∀ (s : List Int) (l : List Int) (left : Nat), (∀ x ∈ s, 0 ≤ x) → lsum s = (left : Int) → tellc (l ++ s) = l ++ s → l ++ s ∈ leafs s.length l left := by
  intro s
  induction s with
  | nil =>
    intro l left _ hs ht
    simp only [lsum] at hs
    rw [List.append_nil] at ht ⊢
    rw [List.length_nil, leafs, if_pos ⟨by omega, ht⟩]
    simp
  | cons d t ih =>
    intro l left h0 hs ht
    simp only [lsum] at hs
    have hd := h0 d List.mem_cons_self
    have htn := lsum_nonneg t (fun x hx => h0 x (List.mem_cons_of_mem _ hx))
    have e : l ++ d :: t = (l ++ [((d.toNat : Nat) : Int)]) ++ t := by rw [show ((d.toNat : Nat) : Int) = d by omega]; simp
    rw [e] at ht ⊢
    rw [List.length_cons, leafs]
    exact List.mem_flatMap.2 ⟨d.toNat, List.mem_range.2 (by omega), ih _ _ (fun x hx => h0 x (List.mem_cons_of_mem _ hx)) (by omega) ht⟩
/-- The first number that differs is less. -/
def lless : List Int → List Int → Bool
  | x :: a, y :: b => if x = y then lless a b else decide (x < y)
  | _, _ => false
theorem lless_app : ∀ (l a b : List Int), lless (l ++ a) (l ++ b) = lless a b := by
  intro l
  induction l with
  | nil => intro a b; rfl
  | cons x t ih => intro a b; simp only [List.cons_append, lless, if_pos, ih]
theorem lless_self : ∀ (l : List Int), lless l l = false := by
  intro l
  induction l with
  | nil => rfl
  | cons x t ih => simp only [lless, if_pos, ih]
theorem leafs_sorted : ∀ (m : Nat) (l : List Int) (left : Nat), (leafs m l left).Pairwise (fun a b => lless a b = true) := by
  intro m
  induction m with
  | zero =>
    intro l left
    rw [leafs]
    split
    · exact List.pairwise_singleton _ _
    · exact List.Pairwise.nil
  | succ m ih =>
    intro l left
    rw [leafs, List.pairwise_flatMap]
    refine ⟨fun d _ => ih _ _, ?_⟩
    refine List.pairwise_lt_range.imp ?_
    intro d d' hlt x hx y hy
    obtain ⟨s, e1, _⟩ := mem_leafs _ _ _ x hx
    obtain ⟨s', e2, _⟩ := mem_leafs _ _ _ y hy
    rw [e1, e2, List.append_assoc, List.append_assoc, lless_app]
    simp only [List.cons_append, lless]
    rw [if_neg (by omega), decide_eq_true (by omega)]
/-! #### from seven numbers on -/
def wsum : Int → List Int → Int
  | _, [] => 0
  | k, d :: t => k * d + wsum (k + 1) t
theorem wsum_set : ∀ (c : List Int) (k : Int) (i : Nat) (h : i < c.length) (v : Int), wsum k (c.set i v) = wsum k c + (k + i) * (v - rd c (i : Int)) := by
  intro c
  induction c with
  | nil => intro k i h; cases h
  | cons d t ih =>
    intro k i h v
    cases i with
    | zero =>
      have : rd (d :: t) ((0 : Nat) : Int) = d := rfl
      rw [this]
      simp only [List.set_cons_zero, wsum, Int.mul_sub]
      simp; omega
    | succ i =>
      have := ih (k + 1) i (by simpa using h) v
      rw [rd_el (by simpa using h)] at this
      rw [rd_el h]
      simp only [List.set_cons_succ, wsum, List.getElem_cons_succ]
      rw [this, show k + 1 + (i : Int) = k + ((i + 1 : Nat) : Int) by omega]
      omega
theorem tincs_wsum (n : Nat) : ∀ (l c : List Int), c.length = n → (∀ x ∈ l, 0 ≤ x ∧ x < (n : Int)) → (∀ x ∈ c, 0 ≤ x ∧ x + l.length ≤ 1000000) → wsum 0 (tincs n c l) = wsum 0 c + lsum l := by
  intro l
  induction l with
  | nil => intro c _ _ _; simp [tincs, lsum]
  | cons d t ih =>
    intro c hc hl hb
    rw [List.length_cons] at hb
    have hd := hl d List.mem_cons_self
    have e : rd c d = rd c ((d.toNat : Nat) : Int) := by rw [show ((d.toNat : Nat) : Int) = d by omega]
    have hlt : d.toNat < c.length := by omega
    have hm : rd c d ∈ c := by rw [e]; exact rd_mem hlt
    have hbd := hb _ hm
    have hw : wrap64 (rd c d + 1) = rd c d + 1 := w64 (by omega) (by omega)
    have hset := wsum_set c 0 d.toNat hlt (rd c d + 1)
    rw [← e, show rd c d + 1 - rd c d = 1 by omega, Int.mul_one] at hset
    rw [tincs, if_pos (by omega), hw, ih _ (by simpa using hc) (fun x hx => hl x (List.mem_cons_of_mem _ hx)) (fun x hx => by
      rcases List.mem_or_eq_of_mem_set hx with h | h
      · have := hb x h; omega
      · omega), hset]
    simp only [lsum]
    omega
theorem wsum_zeros : ∀ (n : Nat) (k : Int), wsum k (List.replicate n 0) = 0 := by
  intro n
  induction n with
  | zero => intro k; rfl
  | succ n ih => intro k; rw [List.replicate_succ]; simp only [wsum, ih]; simp
theorem tells_wsum {l : List Int} (hl : l.length ≤ 1000) (h0 : ∀ x ∈ l, 0 ≤ x) (h : tellc l = l) : wsum 0 l = l.length := by
  have hb := tells_below hl h0 h
  have hs := tincs_wsum l.length l (List.replicate l.length 0) (by simp) (fun x hx => ⟨h0 x hx, hb x hx⟩) (fun x hx => by rw [(List.mem_replicate.1 hx).2]; omega)
  rw [wsum_zeros] at hs
  have e : tincs l.length (List.replicate l.length 0) l = l := h
  rw [e, tells_sum hl h0 h] at hs
  omega
def enum : Nat → Nat → Nat → Nat → List (List Int)
  | 0, _, s, w => if s = 0 ∧ w = 0 then [[]] else []
  | m + 1, k, s, w => (List.range (s + 1)).flatMap (fun d => if k * d ≤ w then (enum m (k + 1) (s - d) (w - k * d)).map (fun t => (d : Int) :: t) else [])
theorem wsum_nonneg : ∀ (l : List Int) (k : Int), 0 ≤ k → (∀ x ∈ l, 0 ≤ x) → 0 ≤ wsum k l := by
  intro l
  induction l with
  | nil => intro k _ _; simp [wsum]
  | cons d t ih =>
    intro k hk h
    have h1 := ih (k + 1) (by omega) (fun x hx => h x (List.mem_cons_of_mem _ hx))
    have h2 := Int.mul_nonneg hk (h d List.mem_cons_self)
    simp only [wsum]; omega
theorem enum_mem : ∀ (l : List Int) (k s w : Nat), (∀ x ∈ l, 0 ≤ x) → lsum l = (s : Int) → wsum (k : Int) l = (w : Int) → l ∈ enum l.length k s w := by
  intro l
  induction l with
  | nil =>
    intro k s w _ hs hw
    simp only [lsum] at hs
    simp only [wsum] at hw
    rw [List.length_nil, enum, if_pos ⟨by omega, by omega⟩]
    simp
  | cons d t ih =>
    intro k s w h0 hs hw
    simp only [lsum] at hs
    simp only [wsum] at hw
    have hd := h0 d List.mem_cons_self
    have h0t := fun x hx => h0 x (List.mem_cons_of_mem d hx)
    have htn := lsum_nonneg t h0t
    have hwn := wsum_nonneg t ((k : Int) + 1) (by omega) h0t
    have hkd : ((k * d.toNat : Nat) : Int) = (k : Int) * d := by rw [Int.natCast_mul, show ((d.toNat : Nat) : Int) = d by omega]
    rw [List.length_cons, enum]
    refine List.mem_flatMap.2 ⟨d.toNat, List.mem_range.2 (by omega), ?_⟩
    rw [if_pos (by omega)]
    exact List.mem_map.2 ⟨t, ih (k + 1) (s - d.toNat) (w - k * d.toNat) h0t (by omega) (by rw [show ((k + 1 : Nat) : Int) = (k : Int) + 1 by omega]; omega), by rw [show ((d.toNat : Nat) : Int) = d by omega]⟩
def due (n : Nat) : List Int := ((((List.replicate n (0 : Int)).set 0 ((n : Int) - 4)).set 1 2).set 2 1).set (n - 4) 1
def onlyDue (n : Nat) : Bool := (enum n 0 n n).all (fun y => !(decide (tellc y = y)) || decide (y = due n))
theorem only7 : onlyDue 7 = true := by kernel_rfl
theorem only8 : onlyDue 8 = true := by kernel_rfl
theorem only9 : onlyDue 9 = true := by kernel_rfl
theorem only10 : onlyDue 10 = true := by kernel_rfl
def dueOk (n : Nat) : Bool := decide (tellc (due n) = due n) && (decide (lsum (due n) = (n : Int)) && ((due n).all (fun x => decide (0 ≤ x)) && decide ((due n).length = n)))
theorem dues : (dueOk 7 && (dueOk 8 && (dueOk 9 && dueOk 10))) = true := by kernel_rfl
theorem leafs_due {n : Nat} (h : 7 ≤ n ∧ n ≤ 10) : leafs n [] n = [due n] := by
  have ho : onlyDue n = true := by
    have : n = 7 ∨ n = 8 ∨ n = 9 ∨ n = 10 := by omega
    rcases this with rfl | rfl | rfl | rfl
    · exact only7
    · exact only8
    · exact only9
    · exact only10
  have hd : dueOk n = true := by
    have hh := dues
    simp only [Bool.and_eq_true] at hh
    have : n = 7 ∨ n = 8 ∨ n = 9 ∨ n = 10 := by omega
    rcases this with rfl | rfl | rfl | rfl
    · exact hh.1
    · exact hh.2.1
    · exact hh.2.2.1
    · exact hh.2.2.2
  unfold dueOk at hd
  simp only [Bool.and_eq_true, decide_eq_true_iff] at hd
  obtain ⟨d1, d2, d3, d4⟩ := hd
  have hmem : due n ∈ leafs n [] n := by
    have := leafs_mem (due n) [] n (fun x hx => by have := List.all_eq_true.1 d3 x hx; simpa using this) d2 (by simpa using d1)
    rwa [d4] at this
  have hall : ∀ y ∈ leafs n [] n, y = due n := by
    intro y hy
    obtain ⟨s, e1, e2, e3, e4, e5⟩ := mem_leafs n [] n y hy
    rw [List.nil_append] at e1
    subst e1
    have hw := tells_wsum (by omega) e3 e5
    have := enum_mem y 0 n n e3 e4 (by rw [← e2]; simpa using hw)
    rw [e2] at this
    have hb := List.all_eq_true.1 ho y this
    rw [decide_eq_true e5] at hb
    simpa using hb
  have hsort := leafs_sorted n [] n
  generalize leafs n [] n = L at *
  match L, hmem, hall, hsort with
  | [], hmem, _, _ => cases hmem
  | [y], _, hall, _ => rw [hall y (by simp)]
  | y :: z :: t, _, hall, hsort =>
    have h1 := (List.pairwise_cons.1 hsort).1 z (by simp)
    rw [hall y (by simp), hall z (by simp), lless_self] at h1
    cases h1

/-! ### the law's own functions -/
theorem rdL {xs : List (List Int)} {i : Nat} (h : i < xs.length) : rd_L1 xs (i : Int) = xs[i] := by simp [rd_L1, List.getD_eq_getElem?_getD, List.getElem?_eq_getElem h]
theorem qSame_ev (a b : List Int) (hb : (a.length : Int) ≤ 4611686018427387904) : Ev (fun k => laws_qSame.f k a b) (decide (a = b)) := by
  by_cases c : a.length = b.length
  · exact Ev.pos (by omega) (same_l0 laws_qSame.l0 (fun k x0 x1 x12 x13 => by rw [laws_qSame.l0]) a b c hb)
  · refine Ev.neg (by omega) (Ev.some ?_)
    rw [decide_eq_false (fun e => c (by rw [e]))]
theorem qSameRows_ev (xs : List (List Int)) (hb : (xs.length : Int) ≤ 1000000000000) (hr : ∀ y ∈ xs, (y.length : Int) ≤ 1000) : Ev (fun k => laws_qSameRows.f k xs xs) true := by
  have key : ∀ (d i : Nat), i + d = xs.length → Ev (fun k => laws_qSameRows.l0 k xs xs (xs.length : Int) (i : Int)) true := by
    intro d
    induction d with
    | zero => intro i hi; exact Ev.step (fun k => by rw [laws_qSameRows.l0]) (Ev.neg (by omega) (Ev.now _))
    | succ d ih =>
      intro i hi
      have hlt : i < xs.length := by omega
      have hlen := hr _ (List.getElem_mem hlt)
      have hq := qSame_ev xs[i] xs[i] (by omega)
      rw [decide_eq_true rfl] at hq
      refine Ev.step (fun k => by rw [laws_qSameRows.l0]) (Ev.pos (by omega) (Ev.pos (by omega) (Ev.pos (by omega) (Ev.pos (by omega) ?_))))
      rw [rdL hlt, w64_succ (by omega)]
      exact Ev.bind1 hq (Ev.pos rfl (ih (i + 1) (by omega)))
  exact Ev.pos rfl (key xs.length 0 (by omega))
theorem qLess_ev (a b : List Int) (hl : a.length = b.length) (hb : (a.length : Int) ≤ 1000000) : Ev (fun k => laws_qLess.f k a b) (lless a b) := by
  have key : ∀ (x y : List Int) (i : Nat), a.drop i = x → b.drop i = y → i ≤ a.length → Ev (fun k => laws_qLess.l0 k a b (a.length : Int) (i : Int)) (lless x y) := by
    intro x
    induction x with
    | nil =>
      intro y i ha hy hi
      have h1 : a.length ≤ i := List.drop_eq_nil_iff.1 ha
      have h2 : y = [] := by rw [← hy, List.drop_eq_nil_of_le (by omega)]
      subst h2
      have hv : lless [] [] = false := rfl
      rw [hv]
      exact Ev.step (fun k => by rw [laws_qLess.l0]) (Ev.neg (by omega) (Ev.now _))
    | cons u x ih =>
      intro y i ha hy hi
      have hlt : i < a.length := by
        rcases Nat.lt_or_ge i a.length with h | h
        · exact h
        · rw [List.drop_eq_nil_of_le h] at ha; cases ha
      cases y with
      | nil =>
        have : b.length ≤ i := List.drop_eq_nil_iff.1 hy
        omega
      | cons v y =>
        refine Ev.step (fun k => by rw [laws_qLess.l0]) (Ev.pos (by omega) (Ev.pos (by omega) (Ev.pos (by omega) (Ev.pos (by omega) ?_))))
        rw [drop_rd ha, drop_rd hy, w64_succ (by omega)]
        simp only [lless]
        by_cases c : u = v
        · rw [if_pos c]
          exact Ev.pos c (ih y (i + 1) (drop_tail ha) (drop_tail hy) (by omega))
        · rw [if_neg c]
          exact Ev.neg c (Ev.now _)
  exact key a b 0 rfl rfl (by omega)
theorem qSum_ev (l : List Int) (h : ∀ x ∈ l, 0 ≤ x) (hs : lsum l < 9223372036854775808) (hb : (l.length : Int) ≤ 4611686018427387904) : Ev (fun k => laws_qSum.f k l) (lsum l) := by
  have h2 := fold_l0 laws_qSum.l0 (fun a d => wrap64 (a + d)) (fun k a xs n i => by rw [laws_qSum.l0]) l 0 hb
  rw [foldw_sum _ 0 (by omega) h (by omega), Int.zero_add] at h2
  exact h2
def isB (l : List Int) : Bool := decide (1 ≤ (l.length : Int) ∧ (l.length : Int) ≤ 12)
theorem isB_iff (l : List Int) : isB l = true ↔ 1 ≤ (l.length : Int) ∧ (l.length : Int) ≤ 12 := decide_eq_true_iff
def isT (l : List Int) : Bool × Bool := if isB l = true then (decide (tellc l = l), true) else (false, false)
def cntT (l : List Int) : List Int × Bool := if isB l = true then (tellc l, true) else ([], false)
theorem IsSelf_ev (l : List Int) : Ev (fun k => impl_IsSelfTelling.f k l) (isT l) ∧ Ev (fun k => spec_IsSelfTelling.f k l) (isT l) := by
  unfold isT
  by_cases c : isB l = true
  · have hl := (isB_iff l).1 c
    rw [if_pos c]
    exact ⟨Ev.pure_bind ((in_f _ _ _).trans (l1In_f _ _ _)) (Ev.pos c (Ev.bind1 (tellCounts_ev l (by omega)) (Ev.bind1 (equal_ev (tellc l) l (by rw [tellc_length]; omega) (tellc_length l)) (Ev.now _)))),
      Ev.pure_bind (l1In_f _ _ _) (Ev.pos c (Ev.bind1 (teCounts_ev l (by omega)) (Ev.bind1 (l1Same_ev (tellc l) l (by rw [tellc_length]; omega) (tellc_length l)) (Ev.now _))))⟩
  · rw [if_neg c]
    exact ⟨Ev.pure_bind ((in_f _ _ _).trans (l1In_f _ _ _)) (Ev.neg c (Ev.now _)), Ev.pure_bind (l1In_f _ _ _) (Ev.neg c (Ev.now _))⟩
theorem TellC_ev (l : List Int) : Ev (fun k => impl_TellCounts.f k l) (cntT l) ∧ Ev (fun k => spec_TellCounts.f k l) (cntT l) := by
  unfold cntT
  by_cases c : isB l = true
  · have hl := (isB_iff l).1 c
    rw [if_pos c]
    exact ⟨Ev.pure_bind ((in_f _ _ _).trans (l1In_f _ _ _)) (Ev.pos c (Ev.bind1 (tellCounts_ev l (by omega)) (Ev.now _))), Ev.pure_bind (l1In_f _ _ _) (Ev.pos c (Ev.bind1 (teCounts_ev l (by omega)) (Ev.now _)))⟩
  · rw [if_neg c]
    exact ⟨Ev.pure_bind ((in_f _ _ _).trans (l1In_f _ _ _)) (Ev.neg c (Ev.now _)), Ev.pure_bind (l1In_f _ _ _) (Ev.neg c (Ev.now _))⟩
/-! #### the draws -/
theorem drawSelf_ev (l : List Int) (hl : Bytes l) : ∃ n, spec_DrawSelfTelling.f l = some n := by
  obtain ⟨b, q, t, e, h1, h2⟩ := one_ev l hl 0 0 12 (by omega)
  unfold spec_DrawSelfTelling.f
  rw [e, Option.bind_some]
  cases b with
  | true =>
    obtain ⟨v, q2, t2, e2, _⟩ := among_ev l hl q t (by omega) [0, 10, 11] (by decide)
    exact ⟨v, by rw [if_pos rfl, e2]; rfl⟩
  | false =>
    obtain ⟨v, q2, t2, e2, _⟩ := pick_ev l hl q t 8 (by omega)
    exact ⟨_, by rw [if_neg (by simp), e2]; rfl⟩
def someOk (x : List Int) (n : Nat) : Bool := decide (tellc x = x) && (decide (lsum x = (n : Int)) && (x.all (fun y => decide (0 ≤ y)) && decide (x.length = n)))
theorem some_leafs {x : List Int} {n : Nat} (h : someOk x n = true) : 0 < (leafs n [] n).length := by
  unfold someOk at h
  simp only [Bool.and_eq_true, decide_eq_true_iff] at h
  obtain ⟨d1, d2, d3, d4⟩ := h
  have := leafs_mem x [] n (fun y hy => by have := List.all_eq_true.1 d3 y hy; simpa using this) d2 (by simpa using d1)
  rw [d4] at this
  exact List.length_pos_of_mem this
theorem some4 : someOk [1, 2, 1, 0] 4 = true := by kernel_rfl
theorem some5 : someOk [2, 1, 2, 0, 0] 5 = true := by kernel_rfl
theorem some7 : someOk (due 7) 7 = true := by kernel_rfl
theorem drawIs_ev (l : List Int) (hl : Bytes l) : ∃ D, Ev (fun k => spec_DrawIsSelfTelling.f k l) D := by
  have key : ∀ (d : Nat) (acc : List Int) (p s : Int), acc.length + d ≤ 100 → 0 ≤ p ∧ p ≤ 4611686018427386000 - 4 * d → ∃ D, Ev (fun k => spec_DrawIsSelfTelling.l0 k acc (d : Int) l p s) D := by
    intro d
    induction d with
    | zero => intro acc p s _ _; exact ⟨acc, Ev.step (fun k => by rw [spec_DrawIsSelfTelling.l0]) (Ev.neg (by omega) (Ev.now _))⟩
    | succ d ih =>
      intro acc p s ha hp
      obtain ⟨v, q, t, e, D⟩ := pick_ev l hl p s 5 (by omega)
      have := D.from_
      have := D.to_
      obtain ⟨v2, q2, t2, e2, D2⟩ := pick_ev l hl q t 9 (by omega)
      have := D2.from_
      have := D2.to_
      obtain ⟨R, e3⟩ := ih (acc ++ [wrap64 (v - wrap64 (Int.tdiv v2 8))]) q2 t2 (by simp; omega) (by omega)
      have hal : acc.length < 17592186044416 := by omega
      refine ⟨R, Ev.step (fun k => by rw [spec_DrawIsSelfTelling.l0]) (Ev.pos (by omega) (Ev.pure_bind e (Ev.pure_bind e2 (Ev.pos hal ?_))))⟩
      simp only []
      rw [show wrap64 (((d + 1 : Nat) : Int) - 1) = (d : Int) by rw [w64 (by omega) (by omega)]; omega]
      exact e3
  obtain ⟨b, q, t, e, h1, h2⟩ := one_ev l hl 0 0 2 (by omega)
  cases b with
  | true =>
    obtain ⟨v, q2, t2, e2, hm, g1, g2⟩ := among_ev l hl q t (by omega) [4, 5, 7] (by decide)
    have hv : v = 4 ∨ v = 5 ∨ v = 7 := by simpa using hm
    have hn : ((v.toNat : Nat) : Int) = v := by omega
    have hpos : 0 < (leafs v.toNat [] v.toNat).length := by
      rcases hv with rfl | rfl | rfl
      · exact some_leafs some4
      · exact some_leafs some5
      · exact some_leafs some7
    have e3 := (teSelf_ev v.toNat (by omega) v.toNat [] (by simp) (fun x hx => by cases hx)).1
    rw [leafs_eq v.toNat (by omega) v.toNat [] v.toNat (by simp) (fun x hx => by cases hx) (by simp [lsum]), hn] at e3
    obtain ⟨i, q3, t3, e4, D⟩ := pick_ev l hl q2 t2 ((leafs v.toNat [] v.toNat).length : Int) (by omega)
    have i0 := D.lo
    have i1 : i < ((leafs v.toNat [] v.toNat).length : Int) := by
      by_cases c1 : 1 < ((leafs v.toNat [] v.toNat).length : Int)
      · exact D.hi c1
      · have := D.one (by omega); omega
    refine ⟨rd_L1 (leafs v.toNat [] v.toNat) i, ?_⟩
    refine Ev.pure_bind e (Ev.pos rfl (Ev.pure_bind e2 (Ev.bind1 e3 (Ev.pure_bind e4 (Ev.pos i0 (Ev.pos i1 (Ev.now _)))))))
  | false =>
    obtain ⟨v, q2, t2, e2, D⟩ := pick_ev l hl q t 14 (by omega)
    have := D.lo
    have := D.hi (by omega)
    have := D.from_
    have := D.to_
    obtain ⟨R, e3⟩ := key v.toNat [] q2 t2 (by simp; omega) (by omega)
    rw [show ((v.toNat : Nat) : Int) = v by omega] at e3
    exact ⟨R, Ev.pure_bind e (Ev.neg (by simp) (Ev.pure_bind e2 e3))⟩
/-! #### the law -/
theorem lawEnd_ev (l1 : List Int) (hl : Bytes l1) : Ev (fun k => laws_FnSelfTellingLists.j2 k l1) true := by
  obtain ⟨D, e⟩ := drawIs_ev l1 hl
  have a := IsSelf_ev D
  have b := TellC_ev D
  refine Ev.step (fun k => by rw [laws_FnSelfTellingLists.j2]) ?_
  refine Ev.bind1 e (Ev.bind1 a.1 (Ev.bind1 a.2 (Ev.bind1 b.1 (Ev.bind1 b.2 (Ev.pos (by simp) (Ev.pos (by simp) (Ev.pos (by simp) ?_)))))))
  by_cases c : isB D = true
  · have hD := (isB_iff D).1 c
    have hT : isT D = (decide (tellc D = D), true) := by unfold isT; rw [if_pos c]
    have hC : cntT D = (tellc D, true) := by unfold cntT; rw [if_pos c]
    rw [hT, hC]
    have q1 := qSame_ev (tellc D) (tellc D) (by rw [tellc_length]; omega)
    rw [decide_eq_true rfl] at q1
    refine Ev.bind1 q1 (Ev.pos rfl (Ev.pos rfl (Ev.pos rfl (Ev.bind1 (qSame_ev (tellc D) D (by rw [tellc_length]; omega)) (Ev.some ?_)))))
    simp
  · have hT : isT D = (false, false) := by unfold isT; rw [if_neg c]
    have hC : cntT D = ([], false) := by unfold cntT; rw [if_neg c]
    rw [hT, hC]
    have q1 := qSame_ev [] [] (by simp)
    rw [decide_eq_true rfl] at q1
    exact Ev.bind1 q1 (Ev.pos rfl (Ev.pos rfl (Ev.neg (by simp) (Ev.now _))))
theorem lawDue_ev (l1 : List Int) (hl : Bytes l1) (n : Nat) (h : 7 ≤ n ∧ n ≤ 10) : Ev (fun k => laws_FnSelfTellingLists.j1 k l1 (n : Int) (leafs n [] n) true) true := by
  rw [leafs_due h]
  have hw : wrap64 ((n : Int) - 4) = ((n - 4 : Nat) : Int) := by rw [w64 (by omega) (by omega)]; omega
  have hr : (List.replicate ((n : Int)).toNat (0 : Int)).length = n := by rw [List.length_replicate]; omega
  have hd : ((((List.replicate ((n : Int)).toNat (0 : Int)).set (0 : Int).toNat (wrap64 ((n : Int) - 4))).set (1 : Int).toNat 2).set (2 : Int).toNat 1).set (wrap64 ((n : Int) - 4)).toNat 1 = due n := by
    rw [hw]
    unfold due
    rw [show (((n - 4 : Nat) : Int)).toNat = n - 4 by omega, show ((n : Int)).toNat = n by omega, show ((n - 4 : Nat) : Int) = (n : Int) - 4 by omega]
    rfl
  have q1 := qSame_ev (due n) (due n) (by unfold due; simp; omega)
  rw [decide_eq_true rfl] at q1
  refine Ev.step (fun k => by rw [laws_FnSelfTellingLists.j1]) (Ev.pos rfl (Ev.pos (by omega) (Ev.pos (by omega) (Ev.pure_bind rfl ?_))))
  rw [hr, hd]
  refine Ev.pos (by omega) (Ev.pos (by omega) (Ev.pos (by omega) ?_))
  rw [hw]
  refine Ev.pos (by omega) (Ev.pos (by omega) (Ev.pos rfl (Ev.pos (by simp) ?_)))
  have h0 : rd_L1 [due n] 0 = due n := rfl
  rw [h0]
  exact Ev.bind1 q1 (Ev.pos rfl (lawEnd_ev l1 hl))
theorem FnSelfTellingLists : laws_FnSelfTellingLists.Pure := by
  intro l0 l1 _ _ hw0 _ _ hw1
  have B0 := Bytes.of hw0
  have B1 := Bytes.of hw1
  by_cases c : (1048576 < (l0.length : Int) ∨ 1048576 < (l0.length : Int) + (l1.length : Int))
  · exact ⟨0, by unfold laws_FnSelfTellingLists.f; rw [big_f, decide_eq_true c]; rfl⟩
  refine Ev.rounds (r := true) ?_
  refine Ev.pure_bind (big_f l0 l1) (Ev.neg (by simpa using c) ?_)
  obtain ⟨n, e⟩ := drawSelf_ev l0 B0
  obtain ⟨t, b, e1, e2, h1, h2⟩ := selfTelling_ev n
  have body : ((t.length : Int) ≤ 25937424601 ∧ (∀ y ∈ t, (y.length : Int) ≤ 1000)) ∧ Ev (fun k => laws_FnSelfTellingLists.l0 k l1 n t b t (t.length : Int) 0) true := by
    cases b with
    | false =>
      obtain ⟨rfl, _⟩ := h2 rfl
      refine ⟨⟨by simp, fun y hy => by cases hy⟩, Ev.step (fun k => by rw [laws_FnSelfTellingLists.l0]) (Ev.neg (by simp) (Ev.neg (by simp) ?_))⟩
      exact Ev.step (fun k => by rw [laws_FnSelfTellingLists.j1]) (Ev.neg (by simp) (lawEnd_ev l1 B1))
    | true =>
      obtain ⟨c1, c2, rfl⟩ := h1 rfl
      have hn : ((n.toNat : Nat) : Int) = n := by omega
      have hl := leafs_length n.toNat [] n.toNat (by omega)
      have hp := pow11 (show n.toNat ≤ 10 by omega)
      refine ⟨⟨by omega, fun y hy => by rw [leafs_row _ _ _ y hy]; simp; omega⟩, ?_⟩
      have hsort := List.pairwise_iff_getElem.1 (leafs_sorted n.toNat [] n.toNat)
      have key : ∀ (d i : Nat), i + d = (leafs n.toNat [] n.toNat).length → Ev (fun k => laws_FnSelfTellingLists.l0 k l1 n (leafs n.toNat [] n.toNat) true (leafs n.toNat [] n.toNat) ((leafs n.toNat [] n.toNat).length : Int) (i : Int)) true := by
        intro d
        induction d with
        | zero =>
          intro i hi
          refine Ev.step (fun k => by rw [laws_FnSelfTellingLists.l0]) (Ev.neg (by omega) (Ev.pos rfl ?_))
          by_cases c7 : n ≥ 7
          · rw [decide_eq_true c7]
            have := lawDue_ev l1 B1 n.toNat (by omega)
            rwa [hn] at this
          · rw [decide_eq_false c7]
            exact Ev.step (fun k => by rw [laws_FnSelfTellingLists.j1]) (Ev.neg (by simp) (lawEnd_ev l1 B1))
        | succ d ih =>
          intro i hi
          have hlt : i < (leafs n.toNat [] n.toNat).length := by omega
          obtain ⟨s, m1, m2, m3, m4, m5⟩ := mem_leafs n.toNat [] n.toNat _ (List.getElem_mem hlt)
          rw [List.nil_append] at m1
          generalize hy : (leafs n.toNat [] n.toNat)[i] = y at *
          subst m1
          have hB : isB y = true := (isB_iff y).2 (by omega)
          have hT : isT y = (true, true) := by unfold isT; rw [if_pos hB, decide_eq_true m5]
          have hC : cntT y = (y, true) := by unfold cntT; rw [if_pos hB, m5]
          have a1 := (IsSelf_ev y).1
          rw [hT] at a1
          have a2 := (TellC_ev y).1
          rw [hC] at a2
          have q1 := qSame_ev y y (by omega)
          rw [decide_eq_true rfl] at q1
          have q2 := qSum_ev y m3 (by omega) (by omega)
          refine Ev.step (fun k => by rw [laws_FnSelfTellingLists.l0]) (Ev.pos (by omega) (Ev.pos (by omega) (Ev.pos (by omega) ?_)))
          rw [rdL hlt, hy, w64_succ (by omega)]
          refine Ev.bind1 a1 (Ev.bind1 a2 (Ev.pos rfl (Ev.pos rfl (Ev.pos rfl (Ev.bind1 q1 (Ev.pos rfl (Ev.pos (by omega) (Ev.bind1 q2 (Ev.pos (by omega) ?_)))))))))
          by_cases c0 : (i : Int) > 0
          · have hwi : wrap64 ((i : Int) - 1) = ((i - 1 : Nat) : Int) := by rw [w64 (by omega) (by omega)]; omega
            have hlt' : i - 1 < (leafs n.toNat [] n.toNat).length := by omega
            have hs := hsort (i - 1) i hlt' hlt (by omega)
            rw [hy] at hs
            have hrow := leafs_row n.toNat [] n.toNat _ (List.getElem_mem hlt')
            have q3 := qLess_ev ((leafs n.toNat [] n.toNat)[i - 1]) y (by rw [hrow, m2]; simp) (by rw [hrow]; simp; omega)
            rw [hs] at q3
            refine Ev.pos c0 ?_
            rw [hwi, rdL hlt']
            exact Ev.pos (by omega) (Ev.pos (by omega) (Ev.bind1 q3 (Ev.pos rfl (ih (i + 1) (by omega)))))
          · exact Ev.neg c0 (ih (i + 1) (by omega))
      exact key (leafs n.toNat [] n.toNat).length 0 (by omega)
  refine Ev.pure_bind e (Ev.bind1 e2 (Ev.bind1 e1 (Ev.neg (by simp) (Ev.bind1 (qSameRows_ev t (by omega) body.1.2) (Ev.pos rfl body.2)))))

end Go.Proofs.Ytaldmgfhkaiefaa.Pure
