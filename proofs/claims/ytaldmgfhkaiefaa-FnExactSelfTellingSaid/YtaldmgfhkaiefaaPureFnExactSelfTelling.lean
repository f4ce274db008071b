/- The program's SelfTelling returns what the reference's returns, for all arguments. -/
import Derived.Test.YtaldmgfhkaiefaaPFnExactSelfTellingx
namespace Go.Proofs.Ytaldmgfhkaiefaa.Pure
open Go.RowKit Go.Proofs.Ytaldmgfhkaiefaa.PFnExactSelfTelling Go.Proofs.YtaldmgfhkaiefaaW.PrintWords Go.Proofs.YtaldmgfhkaiefaaW.PrintLast
set_option linter.unusedVariables false
set_option linter.unusedSimpArgs false
/-! ### words on rounds and on int's wraps -/
theorem Ev.pos {α : Type} {c : Prop} [Decidable c] {g f : Nat → Option α} {r : α} (hc : c) (h : Ev g r) : Ev (fun k => if c then g k else f k) r := Ev.congr (fun _ => if_pos hc) h
theorem Ev.neg {α : Type} {c : Prop} [Decidable c] {g f : Nat → Option α} {r : α} (hc : ¬ c) (h : Ev f r) : Ev (fun k => if c then g k else f k) r := Ev.congr (fun _ => if_neg hc) h
theorem Ev.some {α : Type} {a r : α} (h : a = r) : Ev (fun _ => Option.some a) r := h ▸ Ev.now a
theorem Ev.bind1 {α β : Type} {g : Nat → Option α} {f : Nat → α → Option β} {a : α} {r : β} (h : Ev g a) (k : Ev (fun n => f n a) r) : Ev (fun n => (g n).bind (f n)) r := Ev.bind h k
theorem Ev.pure_bind {α β : Type} {o : Option α} {f : Nat → α → Option β} {a : α} {r : β} (h : o = Option.some a) (k : Ev (fun n => f n a) r) : Ev (fun n => o.bind (f n)) r := by
  subst h; exact k
theorem Ev.two {α β : Type} {g : Nat → Option α} {f : Nat → Option β} {a : α} {b : β} (h : Ev g a) (k : Ev f b) : ∃ n, g n = Option.some a ∧ f n = Option.some b := by
  obtain ⟨K, h⟩ := h
  obtain ⟨K', k⟩ := k
  exact ⟨max K K', h _ (by omega), k _ (by omega)⟩
theorem w64 {n : Int} (h0 : -9223372036854775808 ≤ n) (h1 : n < 9223372036854775808) : wrap64 n = n := by unfold wrap64; omega
theorem w64_emod (n : Int) : wrap64 n % 18446744073709551616 = n % 18446744073709551616 := by unfold wrap64; omega
theorem w64_congr {a b : Int} (h : a % 18446744073709551616 = b % 18446744073709551616) : wrap64 a = wrap64 b := by unfold wrap64; omega
theorem w64_lo (n : Int) : -9223372036854775808 ≤ wrap64 n := by unfold wrap64; omega
theorem w64_hi (n : Int) : wrap64 n < 9223372036854775808 := by unfold wrap64; omega
theorem int_wf {a : Int} (h : (Lit.int .i64 a).wf = true) : -9223372036854775808 ≤ a ∧ a ≤ 9223372036854775807 := by
  simp [Lit.wf] at h
  exact ⟨h.1, h.2⟩

/-! ### words on lists by their numbers -/
theorem rd_q (xs : List Int) (i : Nat) : rd xs (i : Int) = (xs[i]?).getD 0 := by simp [rd, List.getD_eq_getElem?_getD]
theorem rd_el {xs : List Int} {i : Nat} (h : i < xs.length) : rd xs (i : Int) = xs[i] := by rw [rd_q, List.getElem?_eq_getElem h]; rfl
theorem rd_mem {xs : List Int} {i : Nat} (h : i < xs.length) : rd xs (i : Int) ∈ xs := by rw [rd_el h]; exact List.getElem_mem h
theorem rd_ext {a b : List Int} (hl : a.length = b.length) (h : ∀ p < a.length, rd a (p : Int) = rd b (p : Int)) : a = b := by
  apply List.ext_getElem hl
  intro p h1 h2
  rw [← rd_el h1, ← rd_el h2]
  exact h p h1
theorem rd_set (xs : List Int) (i p : Nat) (v : Int) (hi : i < xs.length) : rd (xs.set i v) (p : Int) = if p = i then v else rd xs (p : Int) := by
  rw [rd_q, rd_q, List.getElem?_set]
  by_cases c : p = i
  · subst c; rw [if_pos rfl, if_pos rfl, if_pos hi]; rfl
  · rw [if_neg c, if_neg (fun h => c h.symm)]
theorem rd_rev {xs : List Int} {p : Nat} (h : p < xs.length) : rd xs.reverse (p : Int) = rd xs ((xs.length - 1 - p : Nat) : Int) := by
  rw [rd_el (by simpa using h), rd_el (by omega), List.getElem_reverse]
theorem rd_tab (f : Nat → Int) {n p : Nat} (h : p < n) : rd ((List.range n).map f) (p : Int) = f p := by
  rw [rd_el (by simpa using h)]; simp
theorem rd_cons0 (x : Int) (t : List Int) : rd (x :: t) 0 = x := rfl
theorem rd_append_left {a b : List Int} {p : Nat} (h : p < a.length) : rd (a ++ b) (p : Int) = rd a (p : Int) := by rw [rd_q, rd_q, List.getElem?_append_left h]
theorem rd_append_right {a b : List Int} {p : Nat} : rd (a ++ b) ((a.length + p : Nat) : Int) = rd b (p : Int) := by rw [rd_q, rd_q, List.getElem?_append_right (by omega)]; congr 2; omega
theorem rd_drop (a : List Int) (i p : Nat) : rd (a.drop i) (p : Int) = rd a ((i + p : Nat) : Int) := by rw [rd_q, rd_q, List.getElem?_drop]
theorem tab_succ (f : Nat → Int) (n : Nat) : (List.range (n + 1)).map f = (List.range n).map f ++ [f n] := by rw [List.range_succ, List.map_append]; rfl
/-! #### loops that compare -/
section
variable (L : Nat → List Int → List Int → Int → Int → Option Bool)
  (h0 : ∀ k x0 x1 x12 x13, L (k + 1) x0 x1 x12 x13 = if x13 < x12 then (if 0 ≤ x13 then (if x13 < (x0.length : Int) then (if x13 < (x1.length : Int) then (if (rd x0 x13) = (rd x1 x13) then (L k x0 x1 x12 (wrap64 (x13 + 1))) else (some false)) else (none)) else (none)) else (none)) else (some true))
include h0
theorem same_l0 (a b : List Int) (hl : a.length = b.length) (hb : (a.length : Int) ≤ 4611686018427387904) : Ev (fun k => L k a b (a.length : Int) 0) (decide (a = b)) := by
  have key : ∀ (d i : Nat), i + d = a.length → (∀ p < i, rd a (p : Int) = rd b (p : Int)) → Ev (fun k => L k a b (a.length : Int) (i : Int)) (decide (a = b)) := by
    intro d
    induction d with
    | zero =>
      intro i hi hp
      rw [decide_eq_true (rd_ext hl (fun p h => hp p (by omega)))]
      exact Ev.step (fun k => h0 k _ _ _ _) (Ev.neg (by omega) (Ev.now _))
    | succ d ih =>
      intro i hi hp
      have hw : wrap64 ((i : Int) + 1) = ((i + 1 : Nat) : Int) := by rw [w64 (by omega) (by omega)]; omega
      refine Ev.step (fun k => h0 k _ _ _ _) (Ev.pos (by omega) (Ev.pos (by omega) (Ev.pos (by omega) (Ev.pos (by omega) ?_))))
      by_cases c : rd a (i : Int) = rd b (i : Int)
      · refine Ev.pos c ?_
        rw [hw]
        exact ih (i + 1) (by omega) (fun p h => by
          by_cases e : p = i
          · rw [e]; exact c
          · exact hp p (by omega))
      · rw [decide_eq_false (fun e => c (by rw [e]))]
        exact Ev.neg c (Ev.now _)
  exact key a.length 0 (by omega) (fun p h => by omega)
end
section
variable (L : Nat → List Int → List Int → Int → Option (List Int))
  (h0 : ∀ k x0 x3 x4, L (k + 1) x0 x3 x4 = if x4 ≥ 0 then (if 0 ≤ x4 then (if x4 < (x0.length : Int) then (if x3.length < 17592186044416 then (L k x0 (x3 ++ [rd x0 x4]) (wrap64 (x4 - 1))) else (none)) else (none)) else (none)) else (some x3))
include h0
theorem back_l0 (a : List Int) (hb : (a.length : Int) ≤ 1048576) : Ev (fun k => L k a [] (wrap64 ((a.length : Int) - 1))) a.reverse := by
  have key : ∀ (i : Nat) (acc : List Int), i ≤ a.length → acc.length + i = a.length → acc = (a.drop i).reverse → Ev (fun k => L k a acc ((i : Int) - 1)) a.reverse := by
    intro i
    induction i with
    | zero =>
      intro acc hi hl he
      rw [he, List.drop_zero]
      exact Ev.step (fun k => h0 k _ _ _) (Ev.neg (by omega) (Ev.now _))
    | succ i ih =>
      intro acc hi hl he
      have e : ((i + 1 : Nat) : Int) - 1 = (i : Int) := by omega
      have hw : wrap64 ((i : Int) - 1) = (i : Int) - 1 := w64 (by omega) (by omega)
      rw [e]
      refine Ev.step (fun k => h0 k _ _ _) (Ev.pos (by omega) (Ev.pos (by omega) (Ev.pos (by omega) (Ev.pos (by omega) ?_))))
      rw [hw]
      refine ih (acc ++ [rd a (i : Int)]) (by omega) (by simp; omega) ?_
      rw [he, List.drop_eq_getElem_cons (show i < a.length by omega), List.reverse_cons, rd_el (by omega)]
  have hw : wrap64 ((a.length : Int) - 1) = (a.length : Int) - 1 := w64 (by omega) (by omega)
  rw [hw]
  exact key a.length [] (by omega) (by simp) (by simp)
end

/-! ### bounds -/
theorem in_f (a b c : Int) : impl_in.f a b c = spec_l1In.f a b c := rfl
theorem l1In_f (a b c : Int) : spec_l1In.f a b c = some (decide (b ≤ a ∧ a ≤ c)) := by
  unfold spec_l1In.f
  by_cases h : b ≤ a
  · rw [if_pos h]; simp [h]
  · rw [if_neg h]; simp [h]

/-! ### a list's rest -/
theorem drop_rd {xs : List Int} {i : Nat} {y : Int} {r : List Int} (h : xs.drop i = y :: r) : rd xs (i : Int) = y := by
  have := congrArg (·[0]?) h
  rw [rd_q]
  simp at this
  rw [this]; rfl
theorem drop_tail {xs : List Int} {i : Nat} {y : Int} {r : List Int} (h : xs.drop i = y :: r) : xs.drop (i + 1) = r := by
  rw [← List.tail_drop, h]; rfl
theorem w64_succ {d : Nat} (h : d < 4611686018427387904) : wrap64 ((d : Int) + 1) = ((d + 1 : Nat) : Int) := by rw [w64 (by omega) (by omega)]; omega
theorem w64_sub {a d : Nat} (h : d ≤ a) (ha : a < 4611686018427387904) : wrap64 ((a : Int) - (d : Int)) = ((a - d : Nat) : Int) := by rw [w64 (by omega) (by omega)]; omega

/-! ### what is marked is held; a list is equal to itself -/
theorem rd_of_get {xs : List Int} {i : Nat} {x : Int} (h : xs[i]? = some x) : rd xs (i : Int) = x := by
  simp [rd, List.getD_eq_getElem?_getD, h]
theorem eqIntS_ev (xs : List Int) (hl : (xs.length : Int) ≤ 4611686018427387904) : Ev (fun k => laws_eqIntS.f k xs xs) true := by
  have key : ∀ (d i : Nat), xs.length = i + d → Ev (fun k => laws_eqIntS.l0 k xs xs (i : Int)) true := by
    intro d
    induction d with
    | zero => intro i h; exact Ev.step (fun k => by rw [laws_eqIntS.l0]) (Ev.neg (by omega) (Ev.now _))
    | succ d ih =>
      intro i h
      have hw : wrap64 ((i : Int) + 1) = ((i + 1 : Nat) : Int) := by rw [w64 (by omega) (by omega)]; rfl
      refine Ev.step (fun k => by rw [laws_eqIntS.l0]) (Ev.pos (by omega) (Ev.pos (by omega) (Ev.pos (by omega) (Ev.pos rfl ?_))))
      rw [hw]; exact ih (i + 1) (by omega)
  exact Ev.pos rfl (key xs.length 0 (by omega))
/-- n marks from m on. -/
def marks (m : Int) : Nat → List Int
  | 0 => []
  | n + 1 => m :: marks (m + 1) n
theorem marks_length : ∀ (n : Nat) (m : Int), (marks m n).length = n
  | 0, _ => rfl
  | n + 1, m => by simp [marks, marks_length n]
theorem marks_get : ∀ (n i : Nat) (m : Int), i < n → (marks m n)[i]? = some (m + i)
  | n + 1, 0, m, _ => by simp [marks]
  | n + 1, i + 1, m, h => by
    rw [marks, List.getElem?_cons_succ, marks_get n i (m + 1) (by omega)]
    congr 1; omega
theorem markIntS_ev (xs : List Int) (m : Int) (hm0 : 0 ≤ m) (hm : m + xs.length ≤ 4611686018427387904) : Ev (fun k => laws_markIntS.f k xs m) (m + xs.length, marks m xs.length) := by
  have key : ∀ (d i : Nat), xs.length = i + d → Ev (fun k => laws_markIntS.l0 k (marks m i ++ xs.drop i) (m + i) (i : Int)) (m + xs.length, marks m xs.length) := by
    intro d
    induction d with
    | zero =>
      intro i h
      have hi : i = xs.length := by omega
      subst hi
      refine Ev.step (fun k => by rw [laws_markIntS.l0]) (Ev.neg (by simp [marks_length]) (Ev.some ?_))
      simp
    | succ d ih =>
      intro i h
      have hw : wrap64 ((i : Int) + 1) = ((i + 1 : Nat) : Int) := by rw [w64 (by omega) (by omega)]; rfl
      have hw2 : wrap64 (m + (i : Int) + 1) = m + ((i + 1 : Nat) : Int) := by rw [w64 (by omega) (by omega)]; omega
      have hlen : (i : Int) < ((marks m i ++ xs.drop i).length : Int) := by rw [List.length_append, marks_length, List.length_drop]; omega
      refine Ev.step (fun k => by rw [laws_markIntS.l0]) (Ev.pos hlen (Ev.pos (by omega) ?_))
      have hs : (marks m i ++ xs.drop i).set (i : Int).toNat (m + i) = marks m (i + 1) ++ xs.drop (i + 1) := by
        apply List.ext_getElem?
        intro j
        rw [List.getElem?_set]
        have hil : i < xs.length := by omega
        simp only [Int.toNat_natCast]
        by_cases hj : i = j
        · subst hj
          rw [if_pos rfl, if_pos (by omega), List.getElem?_append_left (by rw [marks_length]; omega), marks_get _ _ _ (by omega)]
        · rw [if_neg hj]
          by_cases hj2 : j < i
          · rw [List.getElem?_append_left (by rw [marks_length]; omega), List.getElem?_append_left (by rw [marks_length]; omega), marks_get _ _ _ hj2, marks_get _ _ _ (by omega)]
          · rw [List.getElem?_append_right (by rw [marks_length]; omega), List.getElem?_append_right (by rw [marks_length]; omega), marks_length, marks_length, List.getElem?_drop, List.getElem?_drop]
            congr 1; omega
      rw [hs, hw, hw2]; exact ih (i + 1) (by omega)
  have := key xs.length 0 (by omega)
  show Ev (fun k => laws_markIntS.l0 k xs m 0) _
  simpa [marks] using this
theorem heldIntS_ev (m : Int) (n : Nat) (hm0 : 0 ≤ m) (hm : m + n ≤ 4611686018427387904) : Ev (fun k => laws_heldIntS.f k (marks m n) m) (m + n) := by
  have key : ∀ (d i : Nat), n = i + d → Ev (fun k => laws_heldIntS.l0 k (marks m n) (m + i) (i : Int)) (m + n) := by
    intro d
    induction d with
    | zero =>
      intro i h
      have hi : i = n := by omega
      subst hi
      exact Ev.step (fun k => by rw [laws_heldIntS.l0]) (Ev.neg (by rw [marks_length]; omega) (Ev.now _))
    | succ d ih =>
      intro i h
      have hw : wrap64 ((i : Int) + 1) = ((i + 1 : Nat) : Int) := by rw [w64 (by omega) (by omega)]; rfl
      have hw2 : wrap64 (m + (i : Int) + 1) = m + ((i + 1 : Nat) : Int) := by rw [w64 (by omega) (by omega)]; omega
      refine Ev.step (fun k => by rw [laws_heldIntS.l0]) (Ev.pos (by rw [marks_length]; omega) (Ev.pos (by omega) (Ev.pos (rd_of_get (marks_get _ _ _ (by omega))) ?_)))
      rw [hw, hw2]; exact ih (i + 1) (by omega)
  have := key n 0 (by omega)
  show Ev (fun k => laws_heldIntS.l0 k (marks m n) m 0) _
  simpa using this

theorem eqIntSS_ev (xs : List (List Int)) (hl : (xs.length : Int) ≤ 4611686018427387904) (hin : ∀ x ∈ xs, (x.length : Int) ≤ 4611686018427387904) : Ev (fun k => laws_eqIntSS.f k xs xs) true := by
  have key : ∀ (d i : Nat), xs.length = i + d → Ev (fun k => laws_eqIntSS.l0 k xs xs (i : Int)) true := by
    intro d
    induction d with
    | zero => intro i h; exact Ev.step (fun k => by rw [laws_eqIntSS.l0]) (Ev.neg (by omega) (Ev.now _))
    | succ d ih =>
      intro i h
      have hw : wrap64 ((i : Int) + 1) = ((i + 1 : Nat) : Int) := by rw [w64 (by omega) (by omega)]; rfl
      have hlt : i < xs.length := by omega
      have hm : (rd_L1 xs (i : Int)) ∈ xs := by
        simp [rd_L1, List.getD_eq_getElem?_getD, List.getElem?_eq_getElem hlt]
      refine Ev.step (fun k => by rw [laws_eqIntSS.l0]) (Ev.pos (by omega) (Ev.pos (by omega) (Ev.pos (by omega) (Ev.bind (eqIntS_ev _ (hin _ hm)) (Ev.pos rfl ?_)))))
      rw [hw]; exact ih (i + 1) (by omega)
  exact Ev.pos rfl (key xs.length 0 (by omega))
def total : List (List Int) → Int
  | [] => 0
  | x :: r => (x.length : Int) + total r
theorem total_nonneg : ∀ xs, 0 ≤ total xs
  | [] => by simp [total]
  | x :: r => by have := total_nonneg r; simp only [total]; omega
theorem total_append : ∀ a b, total (a ++ b) = total a + total b
  | [], b => by simp [total]
  | x :: a, b => by simp only [List.cons_append, total, total_append a b]; omega
def markss (m : Int) : List (List Int) → List (List Int)
  | [] => []
  | x :: r => marks m x.length :: markss (m + x.length) r
theorem markss_length : ∀ (xs : List (List Int)) (m : Int), (markss m xs).length = xs.length
  | [], _ => rfl
  | x :: r, m => by simp [markss, markss_length r]
theorem markIntSS_ev (xs : List (List Int)) (m : Int) (hm0 : 0 ≤ m) (hm : m + total xs ≤ 4611686018427387904) (hl : (xs.length : Int) ≤ 4611686018427387904) : Ev (fun k => laws_markIntSS.f k xs m) (m + total xs, markss m xs) := by
  have key : ∀ (r done : List (List Int)) (q : Int), 0 ≤ q → q + total r ≤ 4611686018427387904 → ((done.length + r.length : Nat) : Int) ≤ 4611686018427387904 → Ev (fun k => laws_markIntSS.l0 k (done ++ r) q (done.length : Int)) (q + total r, done ++ markss q r) := by
    intro r
    induction r with
    | nil =>
      intro done q h0 h1 h2
      refine Ev.step (fun k => by rw [laws_markIntSS.l0]) (Ev.neg (by simp) (Ev.some ?_))
      simp [total, markss]
    | cons x r ih =>
      intro done q h0 h1 h2
      simp only [total, List.length_cons] at h1 h2
      have ht := total_nonneg r
      have hw : wrap64 ((done.length : Int) + 1) = ((done ++ [marks q x.length]).length : Int) := by rw [w64 (by omega) (by omega)]; simp
      have hget : (done ++ x :: r).getD ((done.length : Int)).toNat ([] : List Int) = x := by simp [List.getD_eq_getElem?_getD]
      have hset : (done ++ x :: r).set ((done.length : Int)).toNat (marks q x.length) = (done ++ [marks q x.length]) ++ r := by simp
      refine Ev.step (fun k => by rw [laws_markIntSS.l0]) (Ev.pos (by simp only [List.length_append, List.length_cons]; omega) (Ev.pos (by omega) ?_))
      rw [hget]
      refine Ev.bind (markIntS_ev x q h0 (by omega)) ?_
      simp only [hset, hw]
      have e := ih (done ++ [marks q x.length]) (q + x.length) (by omega) (by omega) (by simp only [List.length_append, List.length_cons, List.length_nil]; omega)
      rw [show q + (total (x :: r)) = q + (x.length : Int) + total r from by simp only [total]; omega]
      rw [show done ++ markss q (x :: r) = done ++ [marks q x.length] ++ markss (q + x.length) r from by simp [markss]]
      exact e
  have := key xs [] m hm0 hm (by simpa using hl)
  show Ev (fun k => laws_markIntSS.l0 k xs m 0) _
  simpa using this
theorem heldIntSS_ev (xs : List (List Int)) (m : Int) (hm0 : 0 ≤ m) (hm : m + total xs ≤ 4611686018427387904) (hl : (xs.length : Int) ≤ 4611686018427387904) : Ev (fun k => laws_heldIntSS.f k (markss m xs) m) (m + total xs) := by
  have key : ∀ (r done : List (List Int)) (q : Int), 0 ≤ q → q + total r ≤ 4611686018427387904 → ((done.length + r.length : Nat) : Int) ≤ 4611686018427387904 → Ev (fun k => laws_heldIntSS.l0 k (done ++ markss q r) q (done.length : Int)) (q + total r) := by
    intro r
    induction r with
    | nil =>
      intro done q h0 h1 h2
      refine Ev.step (fun k => by rw [laws_heldIntSS.l0]) (Ev.neg (by simp [markss]) (Ev.some ?_))
      simp [total]
    | cons x r ih =>
      intro done q h0 h1 h2
      simp only [total, List.length_cons] at h1 h2
      have ht := total_nonneg r
      have hw : wrap64 ((done.length : Int) + 1) = ((done ++ [marks q x.length]).length : Int) := by rw [w64 (by omega) (by omega)]; simp
      have hget : rd_L1 (done ++ markss q (x :: r)) (done.length : Int) = marks q x.length := by simp [rd_L1, markss, List.getD_eq_getElem?_getD]
      refine Ev.step (fun k => by rw [laws_heldIntSS.l0]) (Ev.pos (by simp only [List.length_append, markss, List.length_cons]; omega) (Ev.pos (by omega) ?_))
      rw [hget]
      refine Ev.bind (heldIntS_ev q x.length h0 (by omega)) (Ev.neg (by omega) ?_)
      rw [hw]
      have e := ih (done ++ [marks q x.length]) (q + x.length) (by omega) (by omega) (by simp only [List.length_append, List.length_cons, List.length_nil]; omega)
      rw [show q + (total (x :: r)) = q + (x.length : Int) + total r from by simp only [total]; omega]
      rw [show done ++ markss q (x :: r) = done ++ [marks q x.length] ++ markss (q + x.length) r from by simp [markss]]
      exact e
  have := key xs [] m hm0 hm (by simpa using hl)
  show Ev (fun k => laws_heldIntSS.l0 k (markss m xs) m 0) _
  simpa using this

/-! ### sums of lists -/
def lsum : List Int → Int
  | [] => 0
  | d :: t => d + lsum t
theorem lsum_append : ∀ (l m : List Int), lsum (l ++ m) = lsum l + lsum m := by
  intro l
  induction l with
  | nil => intro m; simp [lsum]
  | cons d t ih => intro m; simp only [List.cons_append, lsum, ih]; omega
theorem lsum_reverse : ∀ (l : List Int), lsum l.reverse = lsum l := by
  intro l
  induction l with
  | nil => rfl
  | cons d t ih => rw [List.reverse_cons, lsum_append, ih]; simp [lsum]; omega
theorem lsum_nonneg : ∀ (l : List Int), (∀ x ∈ l, 0 ≤ x) → 0 ≤ lsum l := by
  intro l
  induction l with
  | nil => intro _; simp [lsum]
  | cons d t ih =>
    intro h
    have := ih (fun x hx => h x (List.mem_cons_of_mem _ hx))
    have := h d List.mem_cons_self
    simp only [lsum]; omega
theorem lsum_le : ∀ (l : List Int) (m : Int), (∀ x ∈ l, x ≤ m) → lsum l ≤ l.length * m := by
  intro l
  induction l with
  | nil => intro m _; simp [lsum]
  | cons d t ih =>
    intro m h
    have h1 := ih m (fun x hx => h x (List.mem_cons_of_mem _ hx))
    have h2 := h d List.mem_cons_self
    simp only [lsum, List.length_cons]
    rw [show ((t.length + 1 : Nat) : Int) * m = t.length * m + m by rw [Int.natCast_add, Int.add_mul]; simp]
    omega

/-! #### loops that gather -/
section
variable {β : Type} (L : Nat → Int → List Int → Int → Int → Option β) (op : Int → Int → Int) (E : Nat → Int → Option β)
  (h0 : ∀ k a xs n i, L (k + 1) a xs n i = if i < n then (if 0 ≤ i then (if i < (xs.length : Int) then (L k (op a (rd xs i)) xs n (wrap64 (i + 1))) else (none)) else (none)) else (E k a))
include h0
theorem foldE_l0 (xs : List Int) (a : Int) (R : β) (hb : (xs.length : Int) ≤ 4611686018427387904) (hE : Ev (fun k => E k (xs.foldl op a)) R) : Ev (fun k => L k a xs (xs.length : Int) 0) R := by
  have key : ∀ (r : List Int) (i : Nat) (a : Int), xs.drop i = r → i ≤ xs.length → Ev (fun k => E k (r.foldl op a)) R → Ev (fun k => L k a xs (xs.length : Int) (i : Int)) R := by
    intro r
    induction r with
    | nil =>
      intro i a he hi hE
      have : xs.length ≤ i := List.drop_eq_nil_iff.1 he
      exact Ev.step (fun k => h0 k _ _ _ _) (Ev.neg (by omega) hE)
    | cons y r ih =>
      intro i a he hi hE
      have hlt : i < xs.length := by
        rcases Nat.lt_or_ge i xs.length with h | h
        · exact h
        · rw [List.drop_eq_nil_of_le h] at he; cases he
      have hw : wrap64 ((i : Int) + 1) = ((i + 1 : Nat) : Int) := by rw [w64 (by omega) (by omega)]; omega
      refine Ev.step (fun k => h0 k _ _ _ _) (Ev.pos (by omega) (Ev.pos (by omega) (Ev.pos (by omega) ?_)))
      rw [hw, drop_rd he]
      exact ih (i + 1) _ (drop_tail he) (by omega) hE
  exact key xs 0 a rfl (by omega) hE
end
theorem fold_l0 (L : Nat → Int → List Int → Int → Int → Option Int) (op : Int → Int → Int)
    (h0 : ∀ k a xs n i, L (k + 1) a xs n i = if i < n then (if 0 ≤ i then (if i < (xs.length : Int) then (L k (op a (rd xs i)) xs n (wrap64 (i + 1))) else (none)) else (none)) else (some a))
    (xs : List Int) (a : Int) (hb : (xs.length : Int) ≤ 4611686018427387904) : Ev (fun k => L k a xs (xs.length : Int) 0) (xs.foldl op a) :=
  foldE_l0 L op (fun _ a => some a) h0 xs a _ hb (Ev.now _)
theorem foldw_sum : ∀ (l : List Int) (a : Int), 0 ≤ a → (∀ x ∈ l, 0 ≤ x) → a + lsum l < 9223372036854775808 → l.foldl (fun a d => wrap64 (a + d)) a = a + lsum l := by
  intro l
  induction l with
  | nil => intro a _ _ _; simp [lsum]
  | cons d t ih =>
    intro a h0 h h1
    have hd := h d List.mem_cons_self
    have ht := lsum_nonneg t (fun x hx => h x (List.mem_cons_of_mem _ hx))
    simp only [lsum] at h1
    simp only [List.foldl_cons, lsum]
    rw [w64 (by omega) (by omega), ih (a + d) (by omega) (fun x hx => h x (List.mem_cons_of_mem _ hx)) (by omega)]
    omega
theorem lsum_set : ∀ (c : List Int) (i : Nat) (v : Int), i < c.length → lsum (c.set i v) = lsum c - rd c (i : Int) + v := by
  intro c
  induction c with
  | nil => intro i v h; cases h
  | cons d t ih =>
    intro i v h
    cases i with
    | zero => simp [lsum, rd]; omega
    | succ i =>
      have := ih i v (by simpa using h)
      rw [rd_el (by simpa using h)] at this
      rw [rd_el h]
      simp only [List.set_cons_succ, lsum, this, List.getElem_cons_succ]
      omega
theorem lsum_mem : ∀ (c : List Int), (∀ x ∈ c, 0 ≤ x) → ∀ x ∈ c, x ≤ lsum c := by
  intro c
  induction c with
  | nil => intro _ x hx; cases hx
  | cons d t ih =>
    intro h x hx
    have h1 := lsum_nonneg t (fun x hx => h x (List.mem_cons_of_mem _ hx))
    have h2 := h d List.mem_cons_self
    simp only [lsum]
    rcases List.mem_cons.1 hx with rfl | hx
    · omega
    · have := ih (fun x hx => h x (List.mem_cons_of_mem _ hx)) x hx
      omega
theorem lsum_zeros : ∀ n, lsum (List.replicate n 0) = 0 := by
  intro n
  induction n with
  | zero => rfl
  | succ n ih => rw [List.replicate_succ]; simp only [lsum]; omega

/-! ### counts of a list's own numbers -/
/-- Counts, with the numbers of a list counted in that are below n. -/
def tincs (n : Nat) : List Int → List Int → List Int
  | c, [] => c
  | c, d :: t => tincs n (if 0 ≤ d ∧ d ≤ (n : Int) - 1 then c.set d.toNat (wrap64 (rd c d + 1)) else c) t
def tellc (l : List Int) : List Int := tincs l.length (List.replicate l.length 0) l
theorem tincs_length (n : Nat) : ∀ (l c : List Int), (tincs n c l).length = c.length := by
  intro l
  induction l with
  | nil => intro c; rfl
  | cons d t ih =>
    intro c
    rw [tincs, ih]
    split
    · simp
    · rfl
theorem tellc_length (l : List Int) : (tellc l).length = l.length := by unfold tellc; rw [tincs_length, List.length_replicate]
section
variable (L : Nat → List Int → List Int → List Int → Int → Int → Option (List Int))
  (h0 : ∀ k x0 c xs n i, L (k + 1) x0 c xs n i = if i < n then (if 0 ≤ i then (if i < (xs.length : Int) then ((spec_l1In.f (rd xs i) 0 (wrap64 ((x0.length : Int) - 1))).bind fun t => (if t = true then (if 0 ≤ (rd xs i) then (if (rd xs i) < (c.length : Int) then (L k x0 (c.set ((rd xs i) : Int).toNat (wrap64 ((rd c (rd xs i)) + 1))) xs n (wrap64 (i + 1))) else (none)) else (none)) else (L k x0 c xs n (wrap64 (i + 1))))) else (none)) else (none)) else (some c))
include h0
theorem tell_l0 (x0 xs c : List Int) (hb : (xs.length : Int) ≤ 1048576) (h1 : (x0.length : Int) ≤ 1048576) (hc : c.length = x0.length) : Ev (fun k => L k x0 c xs (xs.length : Int) 0) (tincs x0.length c xs) := by
  have hw0 : wrap64 ((x0.length : Int) - 1) = (x0.length : Int) - 1 := w64 (by omega) (by omega)
  have key : ∀ (r : List Int) (i : Nat) (c : List Int), xs.drop i = r → i ≤ xs.length → c.length = x0.length → Ev (fun k => L k x0 c xs (xs.length : Int) (i : Int)) (tincs x0.length c r) := by
    intro r
    induction r with
    | nil =>
      intro i c he hi _
      have : xs.length ≤ i := List.drop_eq_nil_iff.1 he
      exact Ev.step (fun k => h0 k _ _ _ _ _) (Ev.neg (by omega) (Ev.now _))
    | cons y r ih =>
      intro i c he hi hc
      have hlt : i < xs.length := by
        rcases Nat.lt_or_ge i xs.length with h | h
        · exact h
        · rw [List.drop_eq_nil_of_le h] at he; cases he
      have hw : wrap64 ((i : Int) + 1) = ((i + 1 : Nat) : Int) := by rw [w64 (by omega) (by omega)]; omega
      refine Ev.step (fun k => h0 k _ _ _ _ _) (Ev.pos (by omega) (Ev.pos (by omega) (Ev.pos (by omega) ?_)))
      rw [hw, drop_rd he, hw0]
      refine Ev.pure_bind (l1In_f _ _ _) ?_
      rw [tincs]
      by_cases cc : 0 ≤ y ∧ y ≤ (x0.length : Int) - 1
      · rw [if_pos cc]
        refine Ev.pos (decide_eq_true cc) (Ev.pos cc.1 (Ev.pos (by omega) ?_))
        exact ih (i + 1) _ (drop_tail he) (by omega) (by simpa using hc)
      · rw [if_neg cc]
        exact Ev.neg (by simpa using cc) (ih (i + 1) _ (drop_tail he) (by omega) hc)
  exact key xs 0 c rfl (by omega) hc
end
/-- How often a number is counted. -/
theorem tincs_rd (n : Nat) : ∀ (l c : List Int) (i : Nat), i < n → c.length = n → (∀ x ∈ c, 0 ≤ x ∧ x + l.length ≤ 1000000) → rd (tincs n c l) (i : Int) = rd c (i : Int) + (l.count (i : Int) : Int) := by
  intro l
  induction l with
  | nil => intro c i _ _ _; simp [tincs]
  | cons d t ih =>
    intro c i hi hc hb
    rw [List.length_cons] at hb
    rw [tincs, List.count_cons]
    by_cases cc : 0 ≤ d ∧ d ≤ (n : Int) - 1
    · rw [if_pos cc]
      have hlt : d.toNat < c.length := by omega
      have e : rd c d = rd c ((d.toNat : Nat) : Int) := by rw [show ((d.toNat : Nat) : Int) = d by omega]
      have hm : rd c d ∈ c := by rw [e]; exact rd_mem hlt
      have hbd := hb _ hm
      have hw : wrap64 (rd c d + 1) = rd c d + 1 := w64 (by omega) (by omega)
      rw [hw, ih _ i hi (by simpa using hc) (fun x hx => by
        rcases List.mem_or_eq_of_mem_set hx with h | h
        · have := hb x h; omega
        · omega), rd_set c d.toNat i _ hlt]
      by_cases ci : i = d.toNat
      · have e2 : d = (i : Int) := by omega
        rw [if_pos ci, e2]; simp; omega
      · have e2 : ¬ (d == (i : Int)) = true := by rw [beq_iff_eq]; omega
        rw [if_neg ci, if_neg e2]; simp
    · have e2 : ¬ (d == (i : Int)) = true := by rw [beq_iff_eq]; omega
      rw [if_neg cc, ih c i hi hc (fun x hx => by have := hb x hx; omega), if_neg e2]
      simp
theorem tellc_rd {l : List Int} (hl : l.length ≤ 1000) {i : Nat} (hi : i < l.length) : rd (tellc l) (i : Int) = (l.count (i : Int) : Int) := by
  unfold tellc
  rw [tincs_rd l.length l _ i hi (by simp) (fun x hx => by rw [(List.mem_replicate.1 hx).2]; omega)]
  have : rd (List.replicate l.length (0 : Int)) (i : Int) = 0 := by rw [rd_el (by simpa using hi)]; simp
  rw [this]; omega
/-- A list that tells itself has no number as great as its length. -/
theorem tells_below {l : List Int} (hl : l.length ≤ 1000) (h0 : ∀ x ∈ l, 0 ≤ x) (h : tellc l = l) : ∀ x ∈ l, x < (l.length : Int) := by
  intro x hx
  obtain ⟨i, hi, hxi⟩ := List.mem_iff_getElem.1 hx
  have hr := tellc_rd hl hi
  rw [h, rd_el hi, hxi] at hr
  have hc := List.count_le_length (a := (i : Int)) (l := l)
  rcases Nat.lt_or_ge (l.count (i : Int)) l.length with h1 | h1
  · omega
  · have h2 : l.count (i : Int) = l.length := by omega
    have h3 := List.count_eq_length.1 h2 x hx
    omega
theorem tincs_sum (n : Nat) : ∀ (l c : List Int), c.length = n → (∀ x ∈ l, 0 ≤ x ∧ x < (n : Int)) → (∀ x ∈ c, 0 ≤ x) → lsum c + l.length ≤ 1000000 → lsum (tincs n c l) = lsum c + l.length := by
  intro l
  induction l with
  | nil => intro c _ _ _ _; simp [tincs]
  | cons d t ih =>
    intro c hc hl h0 hs
    have hd := hl d List.mem_cons_self
    have e : rd c d = rd c ((d.toNat : Nat) : Int) := by rw [show ((d.toNat : Nat) : Int) = d by omega]
    have hlt : d.toNat < c.length := by omega
    have hm : rd c d ∈ c := by rw [e]; exact rd_mem hlt
    have h1 := lsum_mem c h0 _ hm
    have h2 := h0 _ hm
    rw [List.length_cons] at hs
    have hw : wrap64 (rd c d + 1) = rd c d + 1 := w64 (by omega) (by omega)
    have hset := lsum_set c d.toNat (rd c d + 1) hlt
    rw [← e] at hset
    rw [tincs, if_pos (by omega), hw, ih _ (by simpa using hc) (fun x hx => hl x (List.mem_cons_of_mem _ hx)) (fun x hx => by
      rcases List.mem_or_eq_of_mem_set hx with h | h
      · exact h0 x h
      · omega) (by omega), List.length_cons]
    omega
/-- A list that tells itself adds to its length. -/
theorem tells_sum {l : List Int} (hl : l.length ≤ 1000) (h0 : ∀ x ∈ l, 0 ≤ x) (h : tellc l = l) : lsum l = l.length := by
  have hb := tells_below hl h0 h
  have hs := tincs_sum l.length l (List.replicate l.length 0) (by simp) (fun x hx => ⟨h0 x hx, hb x hx⟩) (fun x hx => by rw [(List.mem_replicate.1 hx).2]; omega) (by rw [lsum_zeros]; omega)
  rw [lsum_zeros] at hs
  have e : tincs l.length (List.replicate l.length 0) l = l := h
  rw [e] at hs
  omega

/-! ### all lists that tell themselves: the program's tree and the reference's -/
/-- All lists that tell themselves, go on a list with m numbers more, and add to so much more. -/
def leafs : Nat → List Int → Nat → List (List Int)
  | 0, l, left => if left = 0 ∧ tellc l = l then [l] else []
  | m + 1, l, left => (List.range (left + 1)).flatMap (fun (d : Nat) => leafs m (l ++ [(d : Int)]) (left - d))
/-- The same, for numbers below n. -/
def sleafs (n : Nat) : Nat → List Int → List (List Int)
  | 0, l => if lsum l > (n : Int) then [] else if tellc l = l then [l] else []
  | m + 1, l => if lsum l > (n : Int) then [] else (List.range n).flatMap (fun (d : Nat) => sleafs n m (l ++ [(d : Int)]))
theorem sleafs_over {n m : Nat} {l : List Int} (h : lsum l > (n : Int)) : sleafs n m l = [] := by
  cases m with
  | zero => rw [sleafs, if_pos h]
  | succ m => rw [sleafs, if_pos h]
theorem flat_nil {f : Nat → List (List Int)} : ∀ (l : List Nat), (∀ d ∈ l, f d = []) → l.flatMap f = [] := by
  intro l
  induction l with
  | nil => intro _; rfl
  | cons x t ih => intro h; rw [List.flatMap_cons, h x List.mem_cons_self, ih (fun d hd => h d (List.mem_cons_of_mem _ hd))]; rfl
theorem flat_congr {f g : Nat → List (List Int)} : ∀ (l : List Nat), (∀ d ∈ l, f d = g d) → l.flatMap f = l.flatMap g := by
  intro l
  induction l with
  | nil => intro _; rfl
  | cons x t ih => intro h; rw [List.flatMap_cons, List.flatMap_cons, h x List.mem_cons_self, ih (fun d hd => h d (List.mem_cons_of_mem _ hd))]
theorem flat_cut {f : Nat → List (List Int)} {a b : Nat} (hab : a ≤ b) (h : ∀ d, a ≤ d → d < b → f d = []) : (List.range b).flatMap f = (List.range a).flatMap f := by
  have e : List.range b = List.range a ++ (List.range (b - a)).map (a + ·) := by
    have := List.range_add (n := a) (m := b - a)
    rwa [show a + (b - a) = b by omega] at this
  rw [e, List.flatMap_append, flat_nil ((List.range (b - a)).map (a + ·)) (fun d hd => by
    obtain ⟨x, hx, rfl⟩ := List.mem_map.1 hd
    have := List.mem_range.1 hx
    exact h _ (by omega) (by omega)), List.append_nil]
/-- Where a number is as great as the whole, nothing tells itself. -/
theorem leafs_great : ∀ (m : Nat) (l : List Int) (left : Nat), l.length + m ≤ 1000 → (∀ x ∈ l, 0 ≤ x) → (∃ x ∈ l, ((l.length + m : Nat) : Int) ≤ x) → leafs m l left = [] := by
  intro m
  induction m with
  | zero =>
    intro l left hl h0 ⟨x, hx, hge⟩
    rw [leafs, if_neg]
    rintro ⟨_, h⟩
    have := tells_below (by omega) h0 h x hx
    omega
  | succ m ih =>
    intro l left hl h0 ⟨x, hx, hge⟩
    rw [leafs]
    refine flat_nil _ (fun d _ => ih (l ++ [(d : Int)]) _ (by simp; omega) (fun y hy => ?_) ⟨x, List.mem_append_left _ hx, by simp; omega⟩)
    rcases List.mem_append.1 hy with h | h
    · exact h0 y h
    · simp at h; omega
theorem lsum_snoc (l : List Int) (d : Int) : lsum (l ++ [d]) = lsum l + d := by rw [lsum_append]; simp [lsum]
theorem leafs_eq (n : Nat) (hn : n ≤ 1000) : ∀ (m : Nat) (l : List Int) (left : Nat), l.length + m = n → (∀ x ∈ l, 0 ≤ x ∧ x < (n : Int)) → lsum l + left = (n : Int) → sleafs n m l = leafs m l left := by
  intro m
  induction m with
  | zero =>
    intro l left hl h0 hs
    rw [sleafs, leafs, if_neg (by omega)]
    by_cases c : tellc l = l
    · have h2 := tells_sum (by omega) (fun x hx => (h0 x hx).1) c
      rw [if_pos c, if_pos ⟨by omega, c⟩]
    · rw [if_neg c, if_neg (fun h => c h.2)]
  | succ m ih =>
    intro l left hl h0 hs
    have hs0 := lsum_nonneg l (fun x hx => (h0 x hx).1)
    rw [sleafs, leafs, if_neg (by omega)]
    have h1 : ∀ d ∈ List.range n, sleafs n m (l ++ [(d : Int)]) = if d ≤ left then leafs m (l ++ [(d : Int)]) (left - d) else [] := by
      intro d hd
      have hdn := List.mem_range.1 hd
      by_cases c : d ≤ left
      · rw [if_pos c]
        refine ih _ _ (by simp; omega) (fun x hx => ?_) (by rw [lsum_snoc]; omega)
        rcases List.mem_append.1 hx with h | h
        · exact h0 x h
        · simp at h; omega
      · rw [if_neg c]
        exact sleafs_over (by rw [lsum_snoc]; omega)
    have h2 : ∀ d ∈ List.range (left + 1), leafs m (l ++ [(d : Int)]) (left - d) = if d ≤ left then leafs m (l ++ [(d : Int)]) (left - d) else [] := by
      intro d hd
      have := List.mem_range.1 hd
      rw [if_pos (by omega)]
    rw [flat_congr _ h1, flat_congr _ h2]
    by_cases c : left + 1 ≤ n
    · exact flat_cut c (fun d h3 _ => by rw [if_neg (by omega)])
    · refine (flat_cut (by omega) (fun d h3 h4 => ?_)).symm
      rw [if_pos (by omega)]
      refine leafs_great m _ _ (by simp; omega) (fun x hx => ?_) ⟨(d : Int), by simp, by simp; omega⟩
      rcases List.mem_append.1 hx with h | h
      · exact (h0 x h).1
      · simp at h; omega
theorem flat_length {f : Nat → List (List Int)} {b : Nat} : ∀ (l : List Nat), (∀ d ∈ l, (f d).length ≤ b) → (l.flatMap f).length ≤ l.length * b := by
  intro l
  induction l with
  | nil => intro _; simp
  | cons x t ih =>
    intro h
    have h1 := h x List.mem_cons_self
    have h2 := ih (fun d hd => h d (List.mem_cons_of_mem _ hd))
    rw [List.flatMap_cons, List.length_append, List.length_cons, Nat.add_mul]
    omega
theorem leafs_length : ∀ (m : Nat) (l : List Int) (left : Nat), left ≤ 10 → (leafs m l left).length ≤ 11 ^ m := by
  intro m
  induction m with
  | zero =>
    intro l left _
    rw [leafs]
    split <;> simp
  | succ m ih =>
    intro l left h
    rw [leafs, Nat.pow_succ]
    have h1 := flat_length (b := 11 ^ m) (List.range (left + 1)) (fun d _ => ih (l ++ [(d : Int)]) (left - d) (by omega))
    rw [List.length_range] at h1
    have h2 : (left + 1) * 11 ^ m ≤ 11 * 11 ^ m := Nat.mul_le_mul_right _ (by omega)
    rw [Nat.mul_comm (11 ^ m) 11]
    omega
theorem leafs_row : ∀ (m : Nat) (l : List Int) (left : Nat), ∀ y ∈ leafs m l left, y.length = l.length + m := by
  intro m
  induction m with
  | zero =>
    intro l left y hy
    rw [leafs] at hy
    split at hy
    · simp at hy; subst hy; simp
    · cases hy
  | succ m ih =>
    intro l left y hy
    rw [leafs] at hy
    obtain ⟨d, _, h⟩ := List.mem_flatMap.1 hy
    have := ih _ _ y h
    rw [this]; simp; omega

/-! ### what the two functions make -/
theorem equal_ev (a b : List Int) (hb : (a.length : Int) ≤ 4611686018427387904) (hl : a.length = b.length) : Ev (fun k => slices_Equal_int_int.f k a b) (decide (a = b)) :=
  Ev.pos (by omega) (same_l0 slices_Equal_int_int.l0 (fun k x0 x1 x12 x13 => by rw [slices_Equal_int_int.l0]) a b hl hb)
theorem l1Same_ev (a b : List Int) (hb : (a.length : Int) ≤ 4611686018427387904) (hl : a.length = b.length) : Ev (fun k => spec_l1Same.f k a b) (decide (a = b)) :=
  Ev.pos (by omega) (same_l0 spec_l1Same.l0 (fun k x0 x1 x12 x13 => by rw [spec_l1Same.l0]) a b hl hb)
theorem tellCounts_ev (l : List Int) (h : (l.length : Int) ≤ 1000) : Ev (fun k => impl_tellCounts.f k l) (tellc l) :=
  Ev.pos (by omega) (Ev.pos (by omega) (by
    have := tell_l0 impl_tellCounts.l0 (fun k x0 c xs n i => by rw [impl_tellCounts.l0]; rfl) l l (List.replicate l.length 0) (by omega) (by omega) (by simp)
    rw [show ((l.length : Int)).toNat = l.length by omega]; exact this))
theorem teCounts_ev (l : List Int) (h : (l.length : Int) ≤ 1000) : Ev (fun k => spec_teCounts.f k l) (tellc l) :=
  Ev.pos (by omega) (Ev.pos (by omega) (by
    have := tell_l0 spec_teCounts.l0 (fun k x0 c xs n i => by rw [spec_teCounts.l0]) l l (List.replicate l.length 0) (by omega) (by omega) (by simp)
    rw [show ((l.length : Int)).toNat = l.length by omega]; exact this))
theorem dgSumL_ev (l : List Int) (h : ∀ x ∈ l, 0 ≤ x) (hs : lsum l < 9223372036854775808) (hb : (l.length : Int) ≤ 4611686018427387904) : Ev (fun k => spec_dgSum.f k l) (lsum l) := by
  have h2 := fold_l0 spec_dgSum.l0 (fun a d => wrap64 (a + d)) (fun k a xs n i => by rw [spec_dgSum.l0]) l 0 hb
  rw [foldw_sum _ 0 (by omega) h (by omega), Int.zero_add] at h2
  exact h2
theorem own_ev (l : List Int) (h : l.length < 17592186044416) : spec_l1Own.f l = some l := by
  unfold spec_l1Own.f
  rw [Option.bind_some, if_pos (by simpa using h)]; rfl
theorem pow11 {m : Nat} (h : m ≤ 10) : 11 ^ m ≤ 25937424601 := by
  have : ∀ i : Fin 11, 11 ^ i.val ≤ 25937424601 := by decide
  exact this ⟨m, by omega⟩
theorem on_ev (n : Nat) (hn : n ≤ 10) : ∀ (m : Nat) (l : List Int) (left : Nat) (acc : List (List Int)), l.length + m = n → left ≤ 10 → acc.length + 11 ^ m ≤ 1000000000000 → Ev (fun k => impl_SelfTelling.on k (n : Int) l (left : Int) acc) (acc ++ leafs m l left) := by
  intro m
  induction m with
  | zero =>
    intro l left acc hl hleft hacc
    refine Ev.step (fun k => by rw [impl_SelfTelling.on]) (Ev.pos (by omega) ?_)
    rw [leafs]
    by_cases c : left = 0
    · refine Ev.pos (by omega) (Ev.bind1 (tellCounts_ev l (by omega)) (Ev.bind1 (equal_ev (tellc l) l (by rw [tellc_length]; omega) (tellc_length l)) ?_))
      by_cases c2 : tellc l = l
      · have hv : (if left = 0 ∧ tellc l = l then [l] else []) = [l] := if_pos ⟨c, c2⟩
        rw [hv]
        refine Ev.pos (decide_eq_true c2) (Ev.pure_bind (show slices_Clone_int_int.f l = some l from by unfold slices_Clone_int_int.f; rw [if_pos (by omega)]) ?_)
        exact Ev.pos (by simp at hacc; omega) (Ev.now _)
      · have hv : (if left = 0 ∧ tellc l = l then [l] else []) = [] := if_neg (fun h => c2 h.2)
        rw [hv, List.append_nil]
        exact Ev.neg (by simpa using c2) (Ev.now _)
    · have hv : (if left = 0 ∧ tellc l = l then [l] else []) = [] := if_neg (fun h => c h.1)
      rw [hv, List.append_nil]
      exact Ev.neg (by omega) (Ev.now _)
  | succ m ih =>
    intro l left acc hl hleft hacc
    refine Ev.step (fun k => by rw [impl_SelfTelling.on]) (Ev.neg (by omega) ?_)
    have key : ∀ (r d : Nat) (acc : List (List Int)), d + r = left + 1 → acc.length + r * 11 ^ m ≤ 1000000000000 → Ev (fun k => impl_SelfTelling.lp k (n : Int) l (left : Int) (d : Int) acc) (acc ++ ((List.range r).map (d + ·)).flatMap (fun (d : Nat) => leafs m (l ++ [(d : Int)]) (left - d))) := by
      intro r
      induction r with
      | zero =>
        intro d acc hd _
        rw [List.range_zero, List.map_nil, List.flatMap_nil, List.append_nil]
        exact Ev.step (fun k => by rw [impl_SelfTelling.lp]) (Ev.neg (by omega) (Ev.now _))
      | succ r ih2 =>
        intro d acc hd ha
        have hp := pow11 (show m ≤ 10 by omega)
        rw [Nat.add_mul, Nat.one_mul] at ha
        have hlen := leafs_length m (l ++ [(d : Int)]) (left - d) (by omega)
        refine Ev.step (fun k => by rw [impl_SelfTelling.lp]) (Ev.pos (by omega) (Ev.pos (by omega) ?_))
        rw [w64_sub (by omega) (by omega), w64_succ (by omega)]
        refine Ev.bind1 (ih (l ++ [(d : Int)]) (left - d) acc (by simp; omega) (by omega) (by omega)) ?_
        have := ih2 (d + 1) (acc ++ leafs m (l ++ [(d : Int)]) (left - d)) (by omega) (by rw [List.length_append]; omega)
        have e : ((List.range (r + 1)).map (d + ·)) = d :: ((List.range r).map (d + 1 + ·)) := by
          rw [List.range_succ_eq_map, List.map_cons, List.map_map, Nat.add_zero]
          congr 1
          refine List.map_congr_left (fun x _ => ?_)
          show d + (x + 1) = d + 1 + x
          omega
        rw [e, List.flatMap_cons, ← List.append_assoc]
        exact this
    have hp : 11 ^ (m + 1) = 11 ^ m * 11 := Nat.pow_succ _ _
    have h1 : (left + 1) * 11 ^ m ≤ 11 * 11 ^ m := Nat.mul_le_mul_right _ (by omega)
    have := key (left + 1) 0 acc (by omega) (by omega)
    rw [leafs]
    simpa using this
theorem teSelf_ev (n : Nat) (hn : n ≤ 10) : ∀ (m : Nat) (l : List Int), l.length + m = n → (∀ x ∈ l, 0 ≤ x ∧ x < (n : Int)) → Ev (fun k => spec_teSelf.f k l (n : Int)) (sleafs n m l) ∧ (sleafs n m l).length ≤ 11 ^ m := by
  intro m
  induction m with
  | zero =>
    intro l hl h0
    have hs := lsum_le l (n : Int) (fun x hx => by have := h0 x hx; omega)
    have hs2 : (l.length : Int) * (n : Int) ≤ 10 * 10 := by
      have a1 : (l.length : Int) * (n : Int) ≤ 10 * (n : Int) := Int.mul_le_mul_of_nonneg_right (by omega) (by omega)
      omega
    refine ⟨Ev.step (fun k => by rw [spec_teSelf.f]) (Ev.bind1 (dgSumL_ev l (fun x hx => (h0 x hx).1) (by omega) (by omega)) ?_), ?_⟩
    · rw [sleafs]
      by_cases c : lsum l > (n : Int)
      · rw [if_pos c]; exact Ev.pos c (Ev.now _)
      · rw [if_neg c]
        refine Ev.neg c (Ev.pos (by omega) (Ev.bind1 (teCounts_ev l (by omega)) (Ev.bind1 (l1Same_ev (tellc l) l (by rw [tellc_length]; omega) (tellc_length l)) ?_)))
        by_cases c2 : tellc l = l
        · rw [if_pos c2]
          exact Ev.pos (decide_eq_true c2) (Ev.pure_bind (own_ev l (by omega)) (Ev.now _))
        · rw [if_neg c2]
          exact Ev.neg (by simpa using c2) (Ev.now _)
    · rw [sleafs]
      split
      · simp
      · split <;> simp
  | succ m ih =>
    intro l hl h0
    have hs := lsum_le l (n : Int) (fun x hx => by have := h0 x hx; omega)
    have hs2 : (l.length : Int) * (n : Int) ≤ 10 * 10 := by
      have a1 : (l.length : Int) * (n : Int) ≤ 10 * (n : Int) := Int.mul_le_mul_of_nonneg_right (by omega) (by omega)
      omega
    have hp := pow11 (show m ≤ 10 by omega)
    have hps : 11 ^ (m + 1) = 11 ^ m * 11 := Nat.pow_succ _ _
    have hin : ∀ d < n, ∀ x ∈ l ++ [(d : Int)], 0 ≤ x ∧ x < (n : Int) := by
      intro d hd x hx
      rcases List.mem_append.1 hx with h | h
      · exact h0 x h
      · simp at h; omega
    have key : ∀ (r d : Nat) (acc : List (List Int)), d + r = n → acc.length + r * 11 ^ m ≤ 1000000000000 → Ev (fun k => spec_teSelf.l0 k l (n : Int) acc (d : Int)) (acc ++ ((List.range r).map (d + ·)).flatMap (fun (d : Nat) => sleafs n m (l ++ [(d : Int)]))) := by
      intro r
      induction r with
      | zero =>
        intro d acc hd _
        rw [List.range_zero, List.map_nil, List.flatMap_nil, List.append_nil]
        exact Ev.step (fun k => by rw [spec_teSelf.l0]) (Ev.neg (by omega) (Ev.now _))
      | succ r ih2 =>
        intro d acc hd ha
        rw [Nat.add_mul, Nat.one_mul] at ha
        obtain ⟨e1, e2⟩ := ih (l ++ [(d : Int)]) (by simp; omega) (hin d (by omega))
        have hll : l.length < 17592186044416 := by omega
        have hcap : acc.length + (sleafs n m (l ++ [(d : Int)])).length < 5864062014805 := by omega
        refine Ev.step (fun k => by rw [spec_teSelf.l0]) (Ev.pos (by omega) (Ev.pure_bind (own_ev l hll) (Ev.pos hll (Ev.bind1 e1 (Ev.pos hcap ?_)))))
        rw [w64_succ (by omega)]
        have := ih2 (d + 1) (acc ++ sleafs n m (l ++ [(d : Int)])) (by omega) (by rw [List.length_append]; omega)
        have e : ((List.range (r + 1)).map (d + ·)) = d :: ((List.range r).map (d + 1 + ·)) := by
          rw [List.range_succ_eq_map, List.map_cons, List.map_map, Nat.add_zero]
          congr 1
          refine List.map_congr_left (fun x _ => ?_)
          show d + (x + 1) = d + 1 + x
          omega
        rw [e, List.flatMap_cons, ← List.append_assoc]
        exact this
    have h1 : n * 11 ^ m ≤ 11 * 11 ^ m := Nat.mul_le_mul_right _ (by omega)
    refine ⟨Ev.step (fun k => by rw [spec_teSelf.f]) (Ev.bind1 (dgSumL_ev l (fun x hx => (h0 x hx).1) (by omega) (by omega)) ?_), ?_⟩
    · rw [sleafs]
      by_cases c : lsum l > (n : Int)
      · rw [if_pos c]; exact Ev.pos c (Ev.now _)
      · rw [if_neg c]
        refine Ev.neg c (Ev.neg (by omega) ?_)
        have := key n 0 [] (by omega) (by simp; omega)
        simpa using this
    · rw [sleafs]
      split
      · simp
      · have h2 := flat_length (b := 11 ^ m) (List.range n) (fun d hd => (ih (l ++ [(d : Int)]) (by simp; omega) (hin d (List.mem_range.1 hd))).2)
        rw [List.length_range] at h2
        omega
/-- What both return. -/
theorem selfTelling_ev (a : Int) : ∃ (t : List (List Int)) (b : Bool), Ev (fun k => spec_SelfTelling.f k a) (t, b) ∧ Ev (fun k => impl_SelfTelling.f k a) (t, b) ∧ (b = true → 1 ≤ a ∧ a ≤ 10 ∧ t = leafs a.toNat [] a.toNat) ∧ (b = false → t = [] ∧ ¬ (1 ≤ a ∧ a ≤ 10)) := by
  by_cases c : 1 ≤ a ∧ a ≤ 10
  · have ha : ((a.toNat : Nat) : Int) = a := by omega
    have e1 := (teSelf_ev a.toNat (by omega) a.toNat [] (by simp) (fun x hx => by cases hx)).1
    rw [leafs_eq a.toNat (by omega) a.toNat [] a.toNat (by simp) (fun x hx => by cases hx) (by simp [lsum]), ha] at e1
    have e2 := on_ev a.toNat (by omega) a.toNat [] a.toNat [] (by simp) (by omega) (by have := pow11 (show a.toNat ≤ 10 by omega); simp; omega)
    rw [ha, List.nil_append] at e2
    refine ⟨_, true, Ev.pure_bind (l1In_f a 1 10) (Ev.pos (decide_eq_true c) (Ev.bind1 e1 (Ev.now _))), Ev.pure_bind ((in_f a 1 10).trans (l1In_f a 1 10)) (Ev.pos (decide_eq_true c) (Ev.bind1 e2 (Ev.now _))), fun _ => ⟨c.1, c.2, rfl⟩, (fun h => by cases h)⟩
  · exact ⟨[], false, Ev.pure_bind (l1In_f a 1 10) (Ev.neg (by simpa using c) (Ev.now _)), Ev.pure_bind ((in_f a 1 10).trans (l1In_f a 1 10)) (Ev.neg (by simpa using c) (Ev.now _)), (fun h => by cases h), fun _ => ⟨rfl, c⟩⟩

theorem FnExactSelfTelling : laws_FnExactSelfTelling.Pure := by
  intro a0 _
  obtain ⟨t, b, e1, e2, h1, h2⟩ := selfTelling_ev a0
  have hb : (t.length : Int) ≤ 25937424601 ∧ (∀ y ∈ t, (y.length : Int) ≤ 10) := by
    cases b with
    | true =>
      obtain ⟨c1, c2, rfl⟩ := h1 rfl
      have hl := leafs_length a0.toNat [] a0.toNat (by omega)
      have hp := pow11 (show a0.toNat ≤ 10 by omega)
      exact ⟨by omega, fun y hy => by rw [leafs_row _ _ _ y hy]; simp; omega⟩
    | false =>
      obtain ⟨rfl, _⟩ := h2 rfl
      exact ⟨by simp, fun y hy => by cases hy⟩
  have htot : ∀ (t : List (List Int)), (∀ y ∈ t, (y.length : Int) ≤ 10) → total t ≤ 11 * t.length := by
    intro t
    induction t with
    | nil => intro _; simp [total]
    | cons y t ih =>
      intro h
      have h1 := ih (fun y hy => h y (List.mem_cons_of_mem _ hy))
      have h2 := h y List.mem_cons_self
      simp only [total, List.length_cons]
      omega
  have hT := htot t hb.2
  have e3 := eqIntSS_ev t (by omega) (fun y hy => by have := hb.2 y hy; omega)
  have e4 := markIntSS_ev t 1 (by omega) (by omega) (by omega)
  have e5 := heldIntSS_ev t 1 (by omega) (by omega) (by omega)
  have ht := total_nonneg t
  obtain ⟨K1, e1⟩ := e1
  obtain ⟨K2, e2⟩ := e2
  obtain ⟨K3, e3⟩ := e3
  obtain ⟨K4, e4⟩ := e4
  obtain ⟨K5, e5⟩ := e5
  exact ⟨K1 + K2 + K3 + K4 + K5, t, t, markss 1 t, b, 1 + total t, e1 _ (by omega), e2 _ (by omega), e3 _ (by omega), e4 _ (by omega), e5 _ (by omega), by omega⟩

end Go.Proofs.Ytaldmgfhkaiefaa.Pure
