/- SayRun of the program and of the reference say the same words. -/
import Derived.Test.YtaldmgfhkaiefaaPFnExactSayRunx
namespace Go.Proofs.Ytaldmgfhkaiefaa.Pure
open Go.RowKit Go.Proofs.Ytaldmgfhkaiefaa.PFnExactSayRun Go.Proofs.YtaldmgfhkaiefaaW.PrintWords Go.Proofs.YtaldmgfhkaiefaaW.PrintLast
set_option linter.unusedVariables false
set_option linter.unusedSimpArgs false
/-! ### words on rounds and on int's wraps -/
theorem Ev.pos {α : Type} {c : Prop} [Decidable c] {g f : Nat → Option α} {r : α} (hc : c) (h : Ev g r) : Ev (fun k => if c then g k else f k) r := Ev.congr (fun _ => if_pos hc) h
theorem Ev.neg {α : Type} {c : Prop} [Decidable c] {g f : Nat → Option α} {r : α} (hc : ¬ c) (h : Ev f r) : Ev (fun k => if c then g k else f k) r := Ev.congr (fun _ => if_neg hc) h
theorem Ev.some {α : Type} {a r : α} (h : a = r) : Ev (fun _ => Option.some a) r := h ▸ Ev.now a
theorem Ev.bind1 {α β : Type} {g : Nat → Option α} {f : Nat → α → Option β} {a : α} {r : β} (h : Ev g a) (k : Ev (fun n => f n a) r) : Ev (fun n => (g n).bind (f n)) r := Ev.bind h k
theorem Ev.pure_bind {α β : Type} {o : Option α} {f : Nat → α → Option β} {a : α} {r : β} (h : o = Option.some a) (k : Ev (fun n => f n a) r) : Ev (fun n => o.bind (f n)) r := by
  subst h; exact k
theorem Ev.two {α β : Type} {g : Nat → Option α} {f : Nat → Option β} {a : α} {b : β} (h : Ev g a) (k : Ev f b) : ∃ n, g n = Option.some a ∧ f n = Option.some b := by
  obtain ⟨K, h⟩ := h
  obtain ⟨K', k⟩ := k
  exact ⟨max K K', h _ (by omega), k _ (by omega)⟩
theorem w64 {n : Int} (h0 : -9223372036854775808 ≤ n) (h1 : n < 9223372036854775808) : wrap64 n = n := by unfold wrap64; omega
theorem w64_emod (n : Int) : wrap64 n % 18446744073709551616 = n % 18446744073709551616 := by unfold wrap64; omega
theorem w64_congr {a b : Int} (h : a % 18446744073709551616 = b % 18446744073709551616) : wrap64 a = wrap64 b := by unfold wrap64; omega
theorem w64_lo (n : Int) : -9223372036854775808 ≤ wrap64 n := by unfold wrap64; omega
theorem w64_hi (n : Int) : wrap64 n < 9223372036854775808 := by unfold wrap64; omega
theorem int_wf {a : Int} (h : (Lit.int .i64 a).wf = true) : -9223372036854775808 ≤ a ∧ a ≤ 9223372036854775807 := by
  simp [Lit.wf] at h
  exact ⟨h.1, h.2⟩

/-! ### what is marked is held; a list is equal to itself -/
theorem rd_of_get {xs : List Int} {i : Nat} {x : Int} (h : xs[i]? = some x) : rd xs (i : Int) = x := by
  simp [rd, List.getD_eq_getElem?_getD, h]
theorem eqIntS_ev (xs : List Int) (hl : (xs.length : Int) ≤ 4611686018427387904) : Ev (fun k => laws_eqIntS.f k xs xs) true := by
  have key : ∀ (d i : Nat), xs.length = i + d → Ev (fun k => laws_eqIntS.l0 k xs xs (i : Int)) true := by
    intro d
    induction d with
    | zero => intro i h; exact Ev.step (fun k => by rw [laws_eqIntS.l0]) (Ev.neg (by omega) (Ev.now _))
    | succ d ih =>
      intro i h
      have hw : wrap64 ((i : Int) + 1) = ((i + 1 : Nat) : Int) := by rw [w64 (by omega) (by omega)]; rfl
      refine Ev.step (fun k => by rw [laws_eqIntS.l0]) (Ev.pos (by omega) (Ev.pos (by omega) (Ev.pos (by omega) (Ev.pos rfl ?_))))
      rw [hw]; exact ih (i + 1) (by omega)
  exact Ev.pos rfl (key xs.length 0 (by omega))
/-- n marks from m on. -/
def marks (m : Int) : Nat → List Int
  | 0 => []
  | n + 1 => m :: marks (m + 1) n
theorem marks_length : ∀ (n : Nat) (m : Int), (marks m n).length = n
  | 0, _ => rfl
  | n + 1, m => by simp [marks, marks_length n]
theorem marks_get : ∀ (n i : Nat) (m : Int), i < n → (marks m n)[i]? = some (m + i)
  | n + 1, 0, m, _ => by simp [marks]
  | n + 1, i + 1, m, h => by
    rw [marks, List.getElem?_cons_succ, marks_get n i (m + 1) (by omega)]
    congr 1; omega
theorem markIntS_ev (xs : List Int) (m : Int) (hm0 : 0 ≤ m) (hm : m + xs.length ≤ 4611686018427387904) : Ev (fun k => laws_markIntS.f k xs m) (m + xs.length, marks m xs.length) := by
  have key : ∀ (d i : Nat), xs.length = i + d → Ev (fun k => laws_markIntS.l0 k (marks m i ++ xs.drop i) (m + i) (i : Int)) (m + xs.length, marks m xs.length) := by
    intro d
    induction d with
    | zero =>
      intro i h
      have hi : i = xs.length := by omega
      subst hi
      refine Ev.step (fun k => by rw [laws_markIntS.l0]) (Ev.neg (by simp [marks_length]) (Ev.some ?_))
      simp
    | succ d ih =>
      intro i h
      have hw : wrap64 ((i : Int) + 1) = ((i + 1 : Nat) : Int) := by rw [w64 (by omega) (by omega)]; rfl
      have hw2 : wrap64 (m + (i : Int) + 1) = m + ((i + 1 : Nat) : Int) := by rw [w64 (by omega) (by omega)]; omega
      have hlen : (i : Int) < ((marks m i ++ xs.drop i).length : Int) := by rw [List.length_append, marks_length, List.length_drop]; omega
      refine Ev.step (fun k => by rw [laws_markIntS.l0]) (Ev.pos hlen (Ev.pos (by omega) ?_))
      have hs : (marks m i ++ xs.drop i).set (i : Int).toNat (m + i) = marks m (i + 1) ++ xs.drop (i + 1) := by
        apply List.ext_getElem?
        intro j
        rw [List.getElem?_set]
        have hil : i < xs.length := by omega
        simp only [Int.toNat_natCast]
        by_cases hj : i = j
        · subst hj
          rw [if_pos rfl, if_pos (by omega), List.getElem?_append_left (by rw [marks_length]; omega), marks_get _ _ _ (by omega)]
        · rw [if_neg hj]
          by_cases hj2 : j < i
          · rw [List.getElem?_append_left (by rw [marks_length]; omega), List.getElem?_append_left (by rw [marks_length]; omega), marks_get _ _ _ hj2, marks_get _ _ _ (by omega)]
          · rw [List.getElem?_append_right (by rw [marks_length]; omega), List.getElem?_append_right (by rw [marks_length]; omega), marks_length, marks_length, List.getElem?_drop, List.getElem?_drop]
            congr 1; omega
      rw [hs, hw, hw2]; exact ih (i + 1) (by omega)
  have := key xs.length 0 (by omega)
  show Ev (fun k => laws_markIntS.l0 k xs m 0) _
  simpa [marks] using this
theorem heldIntS_ev (m : Int) (n : Nat) (hm0 : 0 ≤ m) (hm : m + n ≤ 4611686018427387904) : Ev (fun k => laws_heldIntS.f k (marks m n) m) (m + n) := by
  have key : ∀ (d i : Nat), n = i + d → Ev (fun k => laws_heldIntS.l0 k (marks m n) (m + i) (i : Int)) (m + n) := by
    intro d
    induction d with
    | zero =>
      intro i h
      have hi : i = n := by omega
      subst hi
      exact Ev.step (fun k => by rw [laws_heldIntS.l0]) (Ev.neg (by rw [marks_length]; omega) (Ev.now _))
    | succ d ih =>
      intro i h
      have hw : wrap64 ((i : Int) + 1) = ((i + 1 : Nat) : Int) := by rw [w64 (by omega) (by omega)]; rfl
      have hw2 : wrap64 (m + (i : Int) + 1) = m + ((i + 1 : Nat) : Int) := by rw [w64 (by omega) (by omega)]; omega
      refine Ev.step (fun k => by rw [laws_heldIntS.l0]) (Ev.pos (by rw [marks_length]; omega) (Ev.pos (by omega) (Ev.pos (rd_of_get (marks_get _ _ _ (by omega))) ?_)))
      rw [hw, hw2]; exact ih (i + 1) (by omega)
  have := key n 0 (by omega)
  show Ev (fun k => laws_heldIntS.l0 k (marks m n) m 0) _
  simpa using this

theorem eqIntSS_ev (xs : List (List Int)) (hl : (xs.length : Int) ≤ 4611686018427387904) (hin : ∀ x ∈ xs, (x.length : Int) ≤ 4611686018427387904) : Ev (fun k => laws_eqIntSS.f k xs xs) true := by
  have key : ∀ (d i : Nat), xs.length = i + d → Ev (fun k => laws_eqIntSS.l0 k xs xs (i : Int)) true := by
    intro d
    induction d with
    | zero => intro i h; exact Ev.step (fun k => by rw [laws_eqIntSS.l0]) (Ev.neg (by omega) (Ev.now _))
    | succ d ih =>
      intro i h
      have hw : wrap64 ((i : Int) + 1) = ((i + 1 : Nat) : Int) := by rw [w64 (by omega) (by omega)]; rfl
      have hlt : i < xs.length := by omega
      have hm : (rd_L1 xs (i : Int)) ∈ xs := by
        simp [rd_L1, List.getD_eq_getElem?_getD, List.getElem?_eq_getElem hlt]
      refine Ev.step (fun k => by rw [laws_eqIntSS.l0]) (Ev.pos (by omega) (Ev.pos (by omega) (Ev.pos (by omega) (Ev.bind (eqIntS_ev _ (hin _ hm)) (Ev.pos rfl ?_)))))
      rw [hw]; exact ih (i + 1) (by omega)
  exact Ev.pos rfl (key xs.length 0 (by omega))
def total : List (List Int) → Int
  | [] => 0
  | x :: r => (x.length : Int) + total r
theorem total_nonneg : ∀ xs, 0 ≤ total xs
  | [] => by simp [total]
  | x :: r => by have := total_nonneg r; simp only [total]; omega
theorem total_append : ∀ a b, total (a ++ b) = total a + total b
  | [], b => by simp [total]
  | x :: a, b => by simp only [List.cons_append, total, total_append a b]; omega
def markss (m : Int) : List (List Int) → List (List Int)
  | [] => []
  | x :: r => marks m x.length :: markss (m + x.length) r
theorem markss_length : ∀ (xs : List (List Int)) (m : Int), (markss m xs).length = xs.length
  | [], _ => rfl
  | x :: r, m => by simp [markss, markss_length r]
theorem markIntSS_ev (xs : List (List Int)) (m : Int) (hm0 : 0 ≤ m) (hm : m + total xs ≤ 4611686018427387904) (hl : (xs.length : Int) ≤ 4611686018427387904) : Ev (fun k => laws_markIntSS.f k xs m) (m + total xs, markss m xs) := by
  have key : ∀ (r done : List (List Int)) (q : Int), 0 ≤ q → q + total r ≤ 4611686018427387904 → ((done.length + r.length : Nat) : Int) ≤ 4611686018427387904 → Ev (fun k => laws_markIntSS.l0 k (done ++ r) q (done.length : Int)) (q + total r, done ++ markss q r) := by
    intro r
    induction r with
    | nil =>
      intro done q h0 h1 h2
      refine Ev.step (fun k => by rw [laws_markIntSS.l0]) (Ev.neg (by simp) (Ev.some ?_))
      simp [total, markss]
    | cons x r ih =>
      intro done q h0 h1 h2
      simp only [total, List.length_cons] at h1 h2
      have ht := total_nonneg r
      have hw : wrap64 ((done.length : Int) + 1) = ((done ++ [marks q x.length]).length : Int) := by rw [w64 (by omega) (by omega)]; simp
      have hget : (done ++ x :: r).getD ((done.length : Int)).toNat ([] : List Int) = x := by simp [List.getD_eq_getElem?_getD]
      have hset : (done ++ x :: r).set ((done.length : Int)).toNat (marks q x.length) = (done ++ [marks q x.length]) ++ r := by simp
      refine Ev.step (fun k => by rw [laws_markIntSS.l0]) (Ev.pos (by simp only [List.length_append, List.length_cons]; omega) (Ev.pos (by omega) ?_))
      rw [hget]
      refine Ev.bind (markIntS_ev x q h0 (by omega)) ?_
      simp only [hset, hw]
      have e := ih (done ++ [marks q x.length]) (q + x.length) (by omega) (by omega) (by simp only [List.length_append, List.length_cons, List.length_nil]; omega)
      rw [show q + (total (x :: r)) = q + (x.length : Int) + total r from by simp only [total]; omega]
      rw [show done ++ markss q (x :: r) = done ++ [marks q x.length] ++ markss (q + x.length) r from by simp [markss]]
      exact e
  have := key xs [] m hm0 hm (by simpa using hl)
  show Ev (fun k => laws_markIntSS.l0 k xs m 0) _
  simpa using this
theorem heldIntSS_ev (xs : List (List Int)) (m : Int) (hm0 : 0 ≤ m) (hm : m + total xs ≤ 4611686018427387904) (hl : (xs.length : Int) ≤ 4611686018427387904) : Ev (fun k => laws_heldIntSS.f k (markss m xs) m) (m + total xs) := by
  have key : ∀ (r done : List (List Int)) (q : Int), 0 ≤ q → q + total r ≤ 4611686018427387904 → ((done.length + r.length : Nat) : Int) ≤ 4611686018427387904 → Ev (fun k => laws_heldIntSS.l0 k (done ++ markss q r) q (done.length : Int)) (q + total r) := by
    intro r
    induction r with
    | nil =>
      intro done q h0 h1 h2
      refine Ev.step (fun k => by rw [laws_heldIntSS.l0]) (Ev.neg (by simp [markss]) (Ev.some ?_))
      simp [total]
    | cons x r ih =>
      intro done q h0 h1 h2
      simp only [total, List.length_cons] at h1 h2
      have ht := total_nonneg r
      have hw : wrap64 ((done.length : Int) + 1) = ((done ++ [marks q x.length]).length : Int) := by rw [w64 (by omega) (by omega)]; simp
      have hget : rd_L1 (done ++ markss q (x :: r)) (done.length : Int) = marks q x.length := by simp [rd_L1, markss, List.getD_eq_getElem?_getD]
      refine Ev.step (fun k => by rw [laws_heldIntSS.l0]) (Ev.pos (by simp only [List.length_append, markss, List.length_cons]; omega) (Ev.pos (by omega) ?_))
      rw [hget]
      refine Ev.bind (heldIntS_ev q x.length h0 (by omega)) (Ev.neg (by omega) ?_)
      rw [hw]
      have e := ih (done ++ [marks q x.length]) (q + x.length) (by omega) (by omega) (by simp only [List.length_append, List.length_cons, List.length_nil]; omega)
      rw [show q + (total (x :: r)) = q + (x.length : Int) + total r from by simp only [total]; omega]
      rw [show done ++ markss q (x :: r) = done ++ [marks q x.length] ++ markss (q + x.length) r from by simp [markss]]
      exact e
  have := key xs [] m hm0 hm (by simpa using hl)
  show Ev (fun k => laws_heldIntSS.l0 k (markss m xs) m 0) _
  simpa using this

/-! ### bounds -/
theorem in_f (a b c : Int) : impl_in.f a b c = spec_l1In.f a b c := rfl
theorem l1In_f (a b c : Int) : spec_l1In.f a b c = some (decide (b ≤ a ∧ a ≤ c)) := by
  unfold spec_l1In.f
  by_cases h : b ≤ a
  · rw [if_pos h]; simp [h]
  · rw [if_neg h]; simp [h]

/-! ### SayRun: a list is said stretch by stretch -/
theorem dropWhile_le (p : Int → Bool) : ∀ (t : List Int), (t.dropWhile p).length ≤ t.length
  | [] => by simp
  | y :: t => by
    rw [List.dropWhile_cons]
    have := dropWhile_le p t
    split <;> simp only [List.length_cons] <;> omega
def tw (x : Int) (t : List Int) : Nat := (t.takeWhile (· == x)).length
def dw (x : Int) (t : List Int) : List Int := t.dropWhile (· == x)
theorem dw_le (x : Int) (t : List Int) : (dw x t).length ≤ t.length := dropWhile_le _ t
theorem tw_nil (x : Int) : tw x [] = 0 := rfl
theorem tw_same (x : Int) (t : List Int) : tw x (x :: t) = tw x t + 1 := by simp [tw]
theorem tw_other {x y : Int} (h : y ≠ x) (t : List Int) : tw x (y :: t) = 0 := by simp [tw, List.takeWhile_cons, h]
theorem dw_nil (x : Int) : dw x [] = [] := rfl
theorem dw_same (x : Int) (t : List Int) : dw x (x :: t) = dw x t := by simp [dw]
theorem dw_other {x y : Int} (h : y ≠ x) (t : List Int) : dw x (y :: t) = y :: t := by simp [dw, List.dropWhile_cons, h]
theorem dw_drop (x : Int) : ∀ (t : List Int), dw x t = t.drop (tw x t)
  | [] => rfl
  | y :: t => by
    by_cases h : y = x
    · subst h; rw [dw_same, tw_same, List.drop_succ_cons, dw_drop y t]
    · rw [dw_other h, tw_other h]; rfl
theorem tw_le (x : Int) : ∀ (t : List Int), tw x t ≤ t.length
  | [] => by simp [tw]
  | y :: t => by
    by_cases h : y = x
    · subst h; rw [tw_same]; have := tw_le y t; simp only [List.length_cons]; omega
    · rw [tw_other h]; omega
def sayO : List Int → Option (List Int)
  | [] => some []
  | x :: t => if 9 < tw x t + 1 then none else (sayO (dw x t)).map (fun s => ((tw x t + 1 : Nat) : Int) :: x :: s)
termination_by l => l.length
decreasing_by have := dw_le x t; simp only [List.length_cons]; omega
theorem sayO_length : ∀ (n : Nat) (w s : List Int), w.length ≤ n → sayO w = some s → s.length ≤ 2 * w.length := by
  intro n
  induction n with
  | zero => intro w s h e; cases w with
    | nil => rw [sayO] at e; cases e; simp
    | cons x t => simp at h
  | succ n ih => intro w s h e; cases w with
    | nil => rw [sayO] at e; cases e; simp
    | cons x t =>
      rw [sayO] at e
      split at e
      · cases e
      · cases h2 : sayO (dw x t) with
        | none => rw [h2] at e; cases e
        | some r =>
          rw [h2] at e
          cases e
          have h3 := dw_le x t
          simp only [List.length_cons] at h ⊢
          have := ih _ r (by omega) h2
          omega
def sayR (acc w : List Int) : List Int × Bool := match sayO w with
  | none => ([], false)
  | some s => (acc ++ s, decide (((acc ++ s).length : Int) ≤ 400))
theorem rd_at {xs : List Int} {i : Nat} {y : Int} {r : List Int} (h : xs.drop i = y :: r) : rd xs (i : Int) = y := by
  apply rd_of_get
  have := congrArg (·[0]?) h
  simpa using this
theorem drop_next {xs : List Int} {i : Nat} {y : Int} {r : List Int} (h : xs.drop i = y :: r) : xs.drop (i + 1) = r := by
  rw [← List.tail_drop, h]; rfl
theorem drop_lt {xs : List Int} {i : Nat} {y : Int} {r : List Int} (h : xs.drop i = y :: r) : i + (r.length + 1) = xs.length := by
  have := congrArg List.length h
  simp only [List.length_drop, List.length_cons] at this
  omega
section
variable (L0 : Nat → List Int → List Int → Int → Option (List Int × Bool)) (L1 : Nat → List Int → List Int → Int → Int → Option (List Int × Bool)) (c : Nat) (hc : c = 0 ∨ c = 1)
  (h0 : ∀ k x0 x4 x5, L0 (k + 1) x0 x4 x5 = if x5 < (x0.length : Int) then (L1 k x0 x4 x5 (c : Int)) else (some (x4, decide ((x4.length : Int) ≤ 400))))
  (h1 : ∀ k x0 x4 x5 x6, L1 (k + 1) x0 x4 x5 x6 = if (wrap64 (x5 + x6)) < (x0.length : Int) then (if 0 ≤ (wrap64 (x5 + x6)) then (if 0 ≤ x5 then (if x5 < (x0.length : Int) then (if (rd x0 (wrap64 (x5 + x6))) = (rd x0 x5) then (L1 k x0 x4 x5 (wrap64 (x6 + 1))) else (if x6 > 9 then (some (([] : List Int), false)) else ((some (([x6, rd x0 x5] : List Int) : List Int)).bind fun y122 => (if x4.length + y122.length < 17592186044416 then (L0 k x0 (x4 ++ y122) (wrap64 (x5 + x6))) else (none))))) else (none)) else (none)) else (none)) else (if x6 > 9 then (some (([] : List Int), false)) else (if 0 ≤ x5 then (if x5 < (x0.length : Int) then ((some (([x6, rd x0 x5] : List Int) : List Int)).bind fun y129 => (if x4.length + y129.length < 17592186044416 then (L0 k x0 (x4 ++ y129) (wrap64 (x5 + x6))) else (none))) else (none)) else (none))))
include h1
theorem say_l1 (w acc : List Int) (i : Nat) (x : Int) (t0 : List Int) (hx : w.drop i = x :: t0) (hw : (w.length : Int) ≤ 1048576) (ha : acc.length ≤ 2 * w.length) (R : List Int × Bool) : ∀ (r : List Int) (j : Nat), w.drop (i + j) = r → i + j ≤ w.length → (9 < j + tw x r → R = ([], false)) → (j + tw x r ≤ 9 → Ev (fun k => L0 k w (acc ++ [((j + tw x r : Nat) : Int), x]) ((i + (j + tw x r) : Nat) : Int)) R) → Ev (fun k => L1 k w acc (i : Int) (j : Int)) R := by
  have hi := drop_lt hx
  have hrx := rd_at hx
  have hbnd : ∀ (j : Nat), i + j ≤ w.length → wrap64 ((i : Int) + (j : Int)) = ((i + j : Nat) : Int) := fun j hj => by rw [w64 (by omega) (by omega)]; omega
  have hcap : ∀ (u v : Int), acc.length + ([u, v] : List Int).length < 17592186044416 := fun u v => by simp only [List.length_cons, List.length_nil]; omega
  have hi0 : (0 : Int) ≤ (i : Int) := by omega
  have hi1 : (i : Int) < (w.length : Int) := by omega
  intro r
  induction r with
  | nil =>
    intro j hr hj hn hs
    have hle : w.length ≤ i + j := by have := congrArg List.length hr; simp only [List.length_drop, List.length_nil] at this; omega
    rw [tw_nil, Nat.add_zero] at hn hs
    refine Ev.step (fun k => h1 k _ _ _ _) ?_
    rw [hbnd j hj]
    refine Ev.neg (by omega) ?_
    by_cases c9 : 9 < j
    · rw [hn c9]; exact Ev.pos (by omega) (Ev.now _)
    · refine Ev.neg (by omega) (Ev.pos hi0 (Ev.pos hi1 (Ev.pure_bind rfl (Ev.pos (hcap _ _) ?_))))
      rw [hrx]; exact hs (by omega)
  | cons y r ih =>
    intro j hr hj hn hs
    have hlt := drop_lt hr
    have hry := rd_at hr
    have hj1 : ((i + j : Nat) : Int) < (w.length : Int) := by omega
    refine Ev.step (fun k => h1 k _ _ _ _) ?_
    rw [hbnd j hj, hry, hrx]
    refine Ev.pos hj1 (Ev.pos (by omega) (Ev.pos hi0 (Ev.pos hi1 ?_)))
    by_cases e : y = x
    · subst e
      rw [tw_same] at hn hs
      have hw1 : wrap64 ((j : Int) + 1) = ((j + 1 : Nat) : Int) := by rw [w64 (by omega) (by omega)]; omega
      refine Ev.pos rfl ?_
      rw [hw1]
      exact ih (j + 1) (drop_next hr) (by omega) (fun h => hn (by omega)) (fun h => by
        have := hs (by omega)
        rw [show j + 1 + tw y r = j + (tw y r + 1) by omega]
        exact this)
    · rw [tw_other e, Nat.add_zero] at hn hs
      refine Ev.neg e ?_
      by_cases c9 : 9 < j
      · rw [hn c9]; exact Ev.pos (by omega) (Ev.now _)
      · exact Ev.neg (by omega) (Ev.pure_bind rfl (Ev.pos (hcap _ _) (hs (by omega))))
include h0 hc
theorem say_l0 (w : List Int) (hw : (w.length : Int) ≤ 1048576) : ∀ (d i : Nat) (acc : List Int), w.length ≤ i + d → i ≤ w.length → acc.length ≤ 2 * i → Ev (fun k => L0 k w acc (i : Int)) (sayR acc (w.drop i)) := by
  intro d
  induction d with
  | zero =>
    intro i acc hd hi ha
    have e : w.drop i = [] := List.drop_eq_nil_of_le (by omega)
    refine Ev.step (fun k => h0 k _ _ _) (Ev.neg (by omega) (Ev.some ?_))
    rw [e, sayR, sayO]; simp only [List.append_nil]
  | succ d ih =>
    intro i acc hd hi ha
    by_cases cl : i < w.length
    · obtain ⟨x, t, e⟩ : ∃ x t, w.drop i = x :: t := ⟨_, _, List.drop_eq_getElem_cons cl⟩
      have hlt := drop_lt e
      have htw := tw_le x t
      have e1 := drop_next e
      refine Ev.step (fun k => h0 k _ _ _) (Ev.pos (by omega) ?_)
      have hfin : (9 < tw x t + 1 → sayR acc (w.drop i) = ([], false)) ∧ (tw x t + 1 ≤ 9 → Ev (fun k => L0 k w (acc ++ [((tw x t + 1 : Nat) : Int), x]) ((i + (tw x t + 1) : Nat) : Int)) (sayR acc (w.drop i))) := by
        constructor
        · intro h
          rw [e, sayR, sayO, if_pos h]
        · intro h
          have hih := ih (i + (tw x t + 1)) (acc ++ [((tw x t + 1 : Nat) : Int), x]) (by omega) (by omega) (by simp only [List.length_append, List.length_cons, List.length_nil]; omega)
          have e2 : w.drop (i + (tw x t + 1)) = dw x t := by rw [dw_drop, ← e1, List.drop_drop]; congr 1; omega
          have e3 : sayR (acc ++ [((tw x t + 1 : Nat) : Int), x]) (dw x t) = sayR acc (w.drop i) := by
            rw [e, sayR, sayR, sayO, if_neg (by omega : ¬ 9 < tw x t + 1)]
            cases sayO (dw x t) with
            | none => rfl
            | some s => simp only [Option.map_some, List.append_assoc, List.cons_append, List.nil_append]
          rw [e2, e3] at hih
          exact hih
      rcases hc with rfl | rfl
      · have := say_l1 L0 L1 h1 w acc i x t e hw (by omega) (sayR acc (w.drop i)) (x :: t) 0 e (by omega) (fun h => hfin.1 (by rw [tw_same] at h; omega)) (fun h => by rw [tw_same] at h ⊢; rw [Nat.zero_add]; exact hfin.2 (by omega))
        exact this
      · exact say_l1 L0 L1 h1 w acc i x t e hw (by omega) (sayR acc (w.drop i)) t 1 e1 (by omega) (fun h => hfin.1 (by omega)) (fun h => by rw [Nat.add_comm 1 (tw x t)] at h ⊢; exact hfin.2 h)
    · have e : w.drop i = [] := List.drop_eq_nil_of_le (by omega)
      refine Ev.step (fun k => h0 k _ _ _) (Ev.neg (by omega) (Ev.some ?_))
      rw [e, sayR, sayO]; simp only [List.append_nil]
end
theorem teSay_ev (w : List Int) (hw : (w.length : Int) ≤ 1048576) : Ev (fun k => spec_teSay.f k w) (sayR [] w) :=
  say_l0 spec_teSay.l0 spec_teSay.l1 0 (.inl rfl) (fun _ _ _ _ => by rw [spec_teSay.l0]; rfl) (fun _ _ _ _ _ => by rw [spec_teSay.l1]) w hw w.length 0 [] (by omega) (by omega) (by simp)
theorem said_ev (w : List Int) (hw : (w.length : Int) ≤ 1048576) : Ev (fun k => impl_said.f k w) (sayR [] w) :=
  say_l0 impl_said.l0 impl_said.l1 1 (.inr rfl) (fun _ _ _ _ => by rw [impl_said.l0]; rfl) (fun _ _ _ _ _ => by rw [impl_said.l1]) w hw w.length 0 [] (by omega) (by omega) (by simp)
/-! ### a stretch of more than nine -/
def lgs : Int → Nat → List Int → Bool
  | _, _, [] => false
  | p, c, y :: t => if p = y then (if 9 < c + 1 then true else lgs p (c + 1) t) else lgs y 1 t
def longS : List Int → Bool
  | [] => false
  | x :: t => lgs x 1 t
theorem lgs_eq : ∀ (t : List Int) (p : Int) (c : Nat), c ≤ 9 → lgs p c t = if 9 < c + tw p t then true else longS (dw p t)
  | [], p, c, h => by rw [lgs, tw_nil, if_neg (by omega), dw_nil]; rfl
  | y :: t, p, c, h => by
    rw [lgs]
    by_cases e : p = y
    · subst e
      rw [if_pos rfl, tw_same, dw_same]
      by_cases h9 : 9 < c + 1
      · rw [if_pos h9, if_pos (by omega)]
      · rw [if_neg h9, lgs_eq t p (c + 1) (by omega)]
        have : c + 1 + tw p t = c + (tw p t + 1) := by omega
        rw [this]
    · have e' : y ≠ p := fun h => e h.symm
      rw [if_neg e, tw_other e', dw_other e', if_neg (by omega)]
      rfl
theorem longS_eq : ∀ (n : Nat) (w : List Int), w.length ≤ n → longS w = (sayO w).isNone := by
  intro n
  induction n with
  | zero => intro w h; cases w with
    | nil => rw [sayO]; rfl
    | cons x t => simp at h
  | succ n ih => intro w h; cases w with
    | nil => rw [sayO]; rfl
    | cons x t =>
      have h3 := dw_le x t
      simp only [List.length_cons] at h
      rw [sayO, longS, lgs_eq t x 1 (by omega), Nat.add_comm 1]
      by_cases h9 : 9 < tw x t + 1
      · rw [if_pos h9, if_pos h9]; rfl
      · rw [if_neg h9, if_neg h9, ih _ (by omega)]
        cases sayO (dw x t) <;> rfl
section
variable (L0 : Nat → List Int → Int → List Int → Int → Int → Option Bool) (J1 : Nat → List Int → Int → List Int → Int → Int → Bool → Option Bool) (bt bf : Bool)
  (h0 : ∀ k x0 x3 x6 x7 x8, L0 (k + 1) x0 x3 x6 x7 x8 = if x8 < x7 then (if 0 ≤ x8 then (if x8 < (x6.length : Int) then (if x8 > 0 then (if 0 ≤ (wrap64 (x8 - 1)) then (if (wrap64 (x8 - 1)) < (x0.length : Int) then (J1 k x0 x3 x6 x7 x8 ((rd x0 (wrap64 (x8 - 1))) == (rd x6 x8))) else (none)) else (none)) else (J1 k x0 x3 x6 x7 x8 false)) else (none)) else (none)) else (some bf))
  (h1 : ∀ k x0 x3 x6 x7 x8 x23, J1 (k + 1) x0 x3 x6 x7 x8 x23 = if x23 = true then (if (wrap64 (x3 + 1)) > 9 then (some bt) else (L0 k x0 (wrap64 (x3 + 1)) x6 x7 (wrap64 (x8 + 1)))) else (L0 k x0 1 x6 x7 (wrap64 (x8 + 1))))
include h0 h1
theorem long_l0 (w : List Int) (hw : (w.length : Int) ≤ 1048576) : ∀ (r : List Int) (p : Int) (c i : Nat), c ≤ 9 → w.drop i = p :: r → Ev (fun k => L0 k w (c : Int) w (w.length : Int) ((i + 1 : Nat) : Int)) (if lgs p c r then bt else bf) := by
  intro r
  induction r with
  | nil =>
    intro p c i _ hr
    have := drop_lt hr
    simp only [List.length_nil] at this
    refine Ev.step (fun k => h0 k _ _ _ _ _) (Ev.neg (by omega) (Ev.some ?_))
    rw [lgs, if_neg (by simp)]
  | cons y r ih =>
    intro p c i hc hr
    have hn := drop_next hr
    have hlt := drop_lt hr
    simp only [List.length_cons] at hlt
    have hw1 : wrap64 (((i + 1 : Nat) : Int) - 1) = (i : Int) := by rw [w64 (by omega) (by omega)]; omega
    have hw2 : wrap64 (((i + 1 : Nat) : Int) + 1) = ((i + 1 + 1 : Nat) : Int) := by rw [w64 (by omega) (by omega)]; omega
    have hw3 : wrap64 ((c : Int) + 1) = ((c + 1 : Nat) : Int) := by rw [w64 (by omega) (by omega)]; omega
    refine Ev.step (fun k => h0 k _ _ _ _ _) ?_
    rw [hw1, rd_at hr, rd_at hn]
    refine Ev.pos (by omega) (Ev.pos (by omega) (Ev.pos (by omega) (Ev.pos (by omega) (Ev.pos (by omega) (Ev.pos (by omega) ?_)))))
    refine Ev.step (fun k => h1 k _ _ _ _ _ _) ?_
    rw [hw2, hw3, lgs]
    by_cases e : p = y
    · rw [if_pos e]
      refine Ev.pos (by simp [e]) ?_
      by_cases h9 : 9 < c + 1
      · rw [if_pos h9, if_pos rfl]
        exact Ev.pos (by omega) (Ev.now _)
      · rw [if_neg h9]
        refine Ev.neg (by omega) ?_
        subst e
        exact ih p (c + 1) (i + 1) (by omega) hn
    · rw [if_neg e]
      exact Ev.neg (by simp [e]) (ih y 1 (i + 1) (by omega) hn)
theorem long_ev (w : List Int) (hw : (w.length : Int) ≤ 1048576) : Ev (fun k => L0 k w 0 w (w.length : Int) 0) (if (sayO w).isNone then bt else bf) := by
  rw [← longS_eq w.length w (Nat.le_refl _)]
  cases w with
  | nil => exact Ev.step (fun k => h0 k _ _ _ _ _) (Ev.neg (by simp) (Ev.some (by simp [longS])))
  | cons x t =>
    have hl : (0 : Int) < (((x :: t).length : Nat) : Int) := by simp only [List.length_cons]; omega
    refine Ev.step (fun k => h0 k _ _ _ _ _) (Ev.pos hl (Ev.pos (by omega) (Ev.pos hl (Ev.neg (by omega) (Ev.step (fun k => h1 k _ _ _ _ _ _) (Ev.neg (by simp) ?_))))))
    have hz : wrap64 (0 + 1) = ((0 + 1 : Nat) : Int) := by rw [w64 (by omega) (by omega)]; rfl
    rw [hz]
    exact long_l0 L0 J1 bt bf h0 h1 (x :: t) hw t x 1 0 (by omega) rfl
end
theorem teLong_ev (w : List Int) (hw : (w.length : Int) ≤ 1048576) : Ev (fun k => spec_teLong.f k w) (sayO w).isNone := by
  have := long_ev spec_teLong.l0 spec_teLong.j1 true false (fun _ _ _ _ _ _ => by rw [spec_teLong.l0]) (fun _ _ _ _ _ _ _ => by rw [spec_teLong.j1]) w hw
  cases h : (sayO w).isNone <;> rw [h] at this <;> exact this
theorem fits_ev (w : List Int) (hw : (w.length : Int) ≤ 1048576) : Ev (fun k => impl_fits.f k w) (sayO w).isSome := by
  have := long_ev impl_fits.l0 impl_fits.j1 false true (fun _ _ _ _ _ _ => by rw [impl_fits.l0]) (fun _ _ _ _ _ _ _ => by rw [impl_fits.j1]) w hw
  cases h : sayO w <;> rw [h] at this <;> exact this
/-! ### the run -/
def runR : Nat → List Int → List (List Int) → List (List Int) × Bool
  | 0, w, acc => if (sayO w).isNone then ([], false) else (acc, true)
  | n + 1, w, acc => match sayO w with
    | none => ([], false)
    | some s => if (s.length : Int) ≤ 400 then runR n s (acc ++ [s]) else ([], false)
theorem runR_none {w : List Int} (h : sayO w = none) : ∀ (n : Nat) (acc : List (List Int)), runR n w acc = ([], false)
  | 0, acc => by rw [runR, h]; rfl
  | n + 1, acc => by rw [runR, h]
theorem runR_bound : ∀ (n : Nat) (w : List Int) (acc : List (List Int)) (q : Nat), acc.length = q → (∀ y ∈ acc, (y.length : Int) ≤ 400) → (runR n w acc).1.length ≤ q + n ∧ ∀ y ∈ (runR n w acc).1, (y.length : Int) ≤ 400 := by
  intro n
  induction n with
  | zero =>
    intro w acc q hq ha
    rw [runR]
    split
    · exact ⟨by simp, fun y hy => by cases hy⟩
    · exact ⟨by simp [hq], ha⟩
  | succ n ih =>
    intro w acc q hq ha
    rw [runR]
    split
    · exact ⟨by simp, fun y hy => by cases hy⟩
    · next s _ =>
      split
      · next h4 =>
        have := ih s (acc ++ [s]) (q + 1) (by simp [hq]) (fun y hy => by
          rcases List.mem_append.1 hy with h | h
          · exact ha y h
          · simp at h; subst h; exact h4)
        exact ⟨by omega, this.2⟩
      · exact ⟨by simp, fun y hy => by cases hy⟩
theorem total_le : ∀ (xs : List (List Int)), (∀ y ∈ xs, (y.length : Int) ≤ 400) → total xs ≤ 400 * (xs.length : Int)
  | [], _ => by simp [total]
  | x :: r, h => by
    have h1 := h x (by simp)
    have h2 := total_le r (fun y hy => h y (by simp [hy]))
    simp only [total, List.length_cons]
    omega
theorem rd_L1_last (L : List (List Int)) (w : List Int) (q : Nat) (h : L[q]? = some w) : rd_L1 L (q : Int) = w := by
  simp [rd_L1, List.getD_eq_getElem?_getD, h]
theorem last_append (L : List (List Int)) (s : List Int) (q : Nat) (h : L.length = q) : (L ++ [s])[q]? = some s := by
  subst h; simp
theorem teRun_ev (m : Nat) (hm : m ≤ 30) : ∀ (n q : Nat) (w : List Int) (L : List (List Int)), q + n = m → L.length = q + 1 → L[q]? = some w → (w.length : Int) ≤ 400 → Ev (fun k => spec_teRun.l0 k (m : Int) L (q : Int)) (runR n w L) := by
  intro n
  induction n with
  | zero =>
    intro q w L hq hl hw h4
    obtain rfl : q = m := by omega
    refine Ev.step (fun k => by rw [spec_teRun.l0]) (Ev.neg (by omega) (Ev.pos (by omega) (Ev.pos (by omega) ?_)))
    rw [rd_L1_last L w q hw, runR]
    refine Ev.bind (teLong_ev w (by omega)) ?_
    cases (sayO w).isNone with
    | true => exact Ev.pos rfl (Ev.now _)
    | false => exact Ev.neg (by simp) (Ev.now _)
  | succ n ih =>
    intro q w L hq hl hw h4
    refine Ev.step (fun k => by rw [spec_teRun.l0]) (Ev.pos (by omega) (Ev.pos (by omega) (Ev.pos (by omega) ?_)))
    rw [rd_L1_last L w q hw, runR]
    refine Ev.bind (teSay_ev w (by omega)) ?_
    rw [sayR]
    cases hs : sayO w with
    | none => exact Ev.neg (by simp) (Ev.now _)
    | some s =>
      simp only [List.nil_append]
      by_cases h : (s.length : Int) ≤ 400
      · rw [if_pos h]
        have hlim : L.length < 5864062014805 := by omega
        refine Ev.pos (decide_eq_true h) (Ev.pos hlim ?_)
        have hw1 : wrap64 ((q : Int) + 1) = ((q + 1 : Nat) : Int) := by rw [w64 (by omega) (by omega)]; omega
        rw [hw1]
        exact ih (q + 1) s (L ++ [s]) (by omega) (by simp [hl]) (last_append L s (q + 1) hl) h
      · rw [if_neg h]
        exact Ev.neg (by simpa using h) (Ev.now _)
theorem implRun_ev (m : Nat) (hm : m ≤ 30) : ∀ (n q : Nat) (w s0 : List Int) (L : List (List Int)), q + n = m → L.length = q + 1 → L[q]? = some w → (w.length : Int) ≤ 400 → sayO w = some s0 → Ev (fun k => impl_SayRun.l0 k L (m : Int) (q : Int)) (runR n w L) := by
  intro n
  induction n with
  | zero =>
    intro q w s0 L hq hl hw h4 hs
    obtain rfl : q = m := by omega
    refine Ev.step (fun k => by rw [impl_SayRun.l0]) (Ev.neg (by omega) (Ev.some ?_))
    rw [runR, hs]; rfl
  | succ n ih =>
    intro q w s0 L hq hl hw h4 hs
    refine Ev.step (fun k => by rw [impl_SayRun.l0]) (Ev.pos (by omega) (Ev.pos (by omega) (Ev.pos (by omega) ?_)))
    rw [rd_L1_last L w q hw, runR]
    refine Ev.bind (said_ev w (by omega)) ?_
    rw [sayR, hs]
    simp only [List.nil_append]
    by_cases h : (s0.length : Int) ≤ 400
    · rw [if_pos h]
      have hlim : L.length < 5864062014805 := by omega
      refine Ev.pos (decide_eq_true h) (Ev.bind (fits_ev s0 (by omega)) ?_)
      cases hs2 : sayO s0 with
      | none => rw [runR_none hs2]; exact Ev.neg (by simp) (Ev.now _)
      | some s1 =>
        have hw1 : wrap64 ((q : Int) + 1) = ((q + 1 : Nat) : Int) := by rw [w64 (by omega) (by omega)]; omega
        refine Ev.pos rfl (Ev.pos hlim ?_)
        rw [hw1]
        exact ih (q + 1) s0 s1 (L ++ [s0]) (by omega) (by simp [hl]) (last_append L s0 (q + 1) hl) h hs2
    · rw [if_neg h]
      exact Ev.neg (by simpa using h) (Ev.now _)
/-! ### which lists can be said -/
theorem l1All_ev (lo hi : Int) (w : List Int) (hw : (w.length : Int) ≤ 1048576) : Ev (fun k => spec_l1All.f k w lo hi) (w.all fun x => decide (lo ≤ x ∧ x ≤ hi)) := by
  have key : ∀ (r : List Int) (i : Nat), w.drop i = r → i + r.length = w.length → Ev (fun k => spec_l1All.l0 k lo hi w (w.length : Int) (i : Int)) (r.all fun x => decide (lo ≤ x ∧ x ≤ hi)) := by
    intro r
    induction r with
    | nil =>
      intro i h hl
      simp only [List.length_nil] at hl
      rw [List.all_nil]
      exact Ev.step (fun k => by rw [spec_l1All.l0]) (Ev.neg (by omega) (Ev.now _))
    | cons y r ih =>
      intro i h hl
      simp only [List.length_cons] at hl
      have hw1 : wrap64 ((i : Int) + 1) = ((i + 1 : Nat) : Int) := by rw [w64 (by omega) (by omega)]; omega
      refine Ev.step (fun k => by rw [spec_l1All.l0]) (Ev.pos (by omega) (Ev.pos (by omega) (Ev.pos (by omega) ?_)))
      rw [rd_at h, hw1, List.all_cons]
      refine Ev.pure_bind (l1In_f y lo hi) ?_
      cases decide (lo ≤ y ∧ y ≤ hi) with
      | true => exact Ev.pos rfl (ih (i + 1) (drop_next h) (by omega))
      | false => exact Ev.neg (by simp) (Ev.now _)
  exact key w 0 rfl (by simp)
theorem areIn_ok (lo hi : Int) (w : List Int) : impl_areIn.ok lo hi w = w.all fun x => decide (lo ≤ x ∧ x ≤ hi) := by
  unfold impl_areIn.ok
  induction w with
  | nil => rfl
  | cons y r ih =>
    rw [List.any_cons, List.all_cons, Bool.not_or, ih, Bool.not_not]
theorem toIntS_ev (w : List Int) (hw : (w.length : Int) ≤ 1048576) : Ev (fun k => laws_toIntS.f k w) w := by
  have key : ∀ (d i : Nat), i + d = w.length → Ev (fun k => laws_toIntS.l0 k w (w.take i ++ List.replicate d 0) (i : Int)) w := by
    intro d
    induction d with
    | zero =>
      intro i h
      refine Ev.step (fun k => by rw [laws_toIntS.l0]) (Ev.neg (by omega) (Ev.some ?_))
      rw [List.take_of_length_le (by omega)]; simp
    | succ d ih =>
      intro i h
      have hw1 : wrap64 ((i : Int) + 1) = ((i + 1 : Nat) : Int) := by rw [w64 (by omega) (by omega)]; omega
      have hl : (w.take i).length = i := by rw [List.length_take]; omega
      refine Ev.step (fun k => by rw [laws_toIntS.l0]) (Ev.pos (by omega) (Ev.pos (by omega) (Ev.pos (by simp only [List.length_append, List.length_replicate, hl]; omega) ?_)))
      rw [hw1]
      have := ih (i + 1) (by omega)
      obtain ⟨x, t, e⟩ : ∃ x t, w.drop i = x :: t := ⟨_, _, List.drop_eq_getElem_cons (by omega)⟩
      rw [rd_at e]
      have e2 : (w.take i ++ List.replicate (d + 1) 0).set ((i : Int)).toNat x = w.take (i + 1) ++ List.replicate d 0 := by
        have hx : w[i]? = some x := by have := congrArg (·[0]?) e; simpa using this
        rw [Int.toNat_natCast, List.set_append_right _ _ (by omega), hl, Nat.sub_self, List.replicate_succ, List.set_cons_zero, List.take_add_one, hx]
        simp
      rw [e2]
      exact this
  unfold laws_toIntS.f
  refine Ev.pos (by omega) (Ev.pos (by rw [Int.toNat_natCast]; omega) ?_)
  have := key w.length 0 (by omega)
  rw [Int.toNat_natCast]
  simpa using this
theorem FnExactSayRun : laws_FnExactSayRun.Pure := by
  intro w a1 _ _ _ _
  by_cases hbig : 1048576 < (w.length : Int)
  · exact .inl hbig
  refine .inr ⟨by omega, ?_⟩
  have key : ∃ (t : List (List Int)) (b : Bool), Ev (fun k => spec_SayRun.f k w a1) (t, b) ∧ Ev (fun k => impl_SayRun.f k w a1) (t, b) ∧ t.length ≤ 31 ∧ ∀ y ∈ t, (y.length : Int) ≤ 400 := by
    have hgood : Ev (fun k => spec_teGood.f k w) (decide (0 ≤ (w.length : Int) ∧ (w.length : Int) ≤ 400) && impl_areIn.ok 1 9 w) := by
      rw [areIn_ok]
      by_cases h4 : (w.length : Int) ≤ 400
      · rw [decide_eq_true (⟨by omega, h4⟩ : 0 ≤ (w.length : Int) ∧ (w.length : Int) ≤ 400), Bool.true_and]
        exact Ev.pos h4 (Ev.bind (l1All_ev 1 9 w (by omega)) (Ev.now _))
      · rw [decide_eq_false (fun h => h4 h.2), Bool.false_and]
        exact Ev.neg h4 (Ev.now _)
    cases hb : (decide (0 ≤ (w.length : Int) ∧ (w.length : Int) ≤ 400) && impl_areIn.ok 1 9 w) with
    | false =>
      rw [hb] at hgood
      refine ⟨[], false, Ev.bind hgood (Ev.neg (by simp) (Ev.now _)), ?_, by simp, fun y hy => by cases hy⟩
      refine Ev.pure_bind (show impl_isSaid.f w = some false by rw [impl_isSaid.f, impl_areIn.f, hb]; rfl) (Ev.neg (by simp) (Ev.step (fun k => by rw [impl_SayRun.j0]) (Ev.pos rfl (Ev.now _))))
    | true =>
      rw [hb] at hgood
      have h4 : (w.length : Int) ≤ 400 := by
        rw [Bool.and_eq_true, decide_eq_true_iff] at hb
        exact hb.1.2
      have hsaid : impl_isSaid.f w = some true := by rw [impl_isSaid.f, impl_areIn.f, hb]; rfl
      by_cases c : 0 ≤ a1 ∧ a1 ≤ 30
      · obtain ⟨m, rfl⟩ : ∃ m : Nat, a1 = (m : Int) := ⟨a1.toNat, by omega⟩
        have hb2 := runR_bound m w [w] 1 rfl (fun y hy => by simp at hy; subst hy; exact h4)
        refine ⟨(runR m w [w]).1, (runR m w [w]).2, ?_, ?_, by omega, hb2.2⟩
        · refine Ev.bind hgood (Ev.pos rfl (Ev.pure_bind (l1In_f (m : Int) 0 30) (Ev.pos (by simpa using c) ?_)))
          have e := teRun_ev m (by omega) m 0 w [w] (by omega) rfl rfl h4
          refine Ev.bind (a := runR m w [w]) ?_ (Ev.now _)
          refine Ev.pure_bind (show spec_l1Own.f w = some w by rw [spec_l1Own.f]; simp only [Option.bind_some, List.length_nil, Nat.zero_add, List.nil_append]; exact if_pos (by omega)) e
        · refine Ev.pure_bind hsaid (Ev.pos rfl (Ev.pure_bind ((in_f (m : Int) 0 30).trans (l1In_f (m : Int) 0 30)) (Ev.pos (by simpa using c) (Ev.bind (fits_ev w (by omega)) ?_))))
          cases hs : sayO w with
          | none =>
            rw [runR_none hs]
            show Ev _ (([] : List (List Int)), false)
            refine Ev.step (fun k => by rw [impl_SayRun.j0]) ?_
            exact Ev.pos rfl (Ev.now _)
          | some s =>
            refine Ev.step (fun k => by rw [impl_SayRun.j0]) (Ev.neg (by simp) (Ev.pure_bind (show slices_Clone_int_int.f w = some w from if_pos (by omega)) ?_))
            exact implRun_ev m (by omega) m 0 w s [w] (by omega) rfl rfl h4 hs
      · refine ⟨[], false, Ev.bind hgood (Ev.pos rfl (Ev.pure_bind (l1In_f a1 0 30) (Ev.neg (by simpa using c) (Ev.now _)))), ?_, by simp, fun y hy => by cases hy⟩
        exact Ev.pure_bind hsaid (Ev.pos rfl (Ev.pure_bind ((in_f a1 0 30).trans (l1In_f a1 0 30)) (Ev.neg (by simpa using c) (Ev.step (fun k => by rw [impl_SayRun.j0]) (Ev.pos rfl (Ev.now _))))))
  obtain ⟨t, b, e1, e2, r1, r2⟩ := key
  have rt := total_le t r2
  have ht := total_nonneg t
  have e3 := eqIntSS_ev t (by omega) (fun y hy => by have := r2 y hy; omega)
  have e4 := markIntSS_ev t 1 (by omega) (by omega) (by omega)
  have e5 := heldIntSS_ev t 1 (by omega) (by omega) (by omega)
  have e6 := toIntS_ev w (by omega)
  have e7 := eqIntS_ev w (by omega)
  have e8 := markIntS_ev w 1 (by omega) (by omega)
  obtain ⟨K1, e1⟩ := e1
  obtain ⟨K2, e2⟩ := e2
  obtain ⟨K3, e3⟩ := e3
  obtain ⟨K4, e4⟩ := e4
  obtain ⟨K5, e5⟩ := e5
  obtain ⟨K6, e6⟩ := e6
  obtain ⟨K7, e7⟩ := e7
  obtain ⟨K8, e8⟩ := e8
  exact ⟨K1 + K2 + K3 + K4 + K5 + K6 + K7 + K8, t, t, markss 1 t, marks 1 w.length, b, 1 + total t, 1 + w.length, e6 _ (by omega), e1 _ (by omega), e2 _ (by omega), e3 _ (by omega), e7 _ (by omega), e8 _ (by omega), by omega, e4 _ (by omega), e5 _ (by omega), by omega⟩

end Go.Proofs.Ytaldmgfhkaiefaa.Pure
