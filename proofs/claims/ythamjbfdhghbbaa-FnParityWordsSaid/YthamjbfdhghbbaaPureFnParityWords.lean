/- Parity words tell remainders, numbers with the same remainder have the same words, and what is behind them grows by threes; for all inputs. -/
import Derived.Test.YthamjbfdhghbbaaPFnParityWordsx
namespace Go.Proofs.Ythamjbfdhghbbaa.Pure
open Go.RowKit Go.Proofs.Ythamjbfdhghbbaa.PFnParityWords Go.Proofs.YthamjbfdhghbbaaW.PrintWords Go.Proofs.YthamjbfdhghbbaaW.PrintLast
set_option linter.unusedVariables false
set_option linter.unusedSimpArgs false
/-! ### words on rounds and on int's wraps -/
theorem Ev.pos {α : Type} {c : Prop} [Decidable c] {g f : Nat → Option α} {r : α} (hc : c) (h : Ev g r) : Ev (fun k => if c then g k else f k) r := Ev.congr (fun _ => if_pos hc) h
theorem Ev.neg {α : Type} {c : Prop} [Decidable c] {g f : Nat → Option α} {r : α} (hc : ¬ c) (h : Ev f r) : Ev (fun k => if c then g k else f k) r := Ev.congr (fun _ => if_neg hc) h
theorem Ev.some {α : Type} {a r : α} (h : a = r) : Ev (fun _ => Option.some a) r := h ▸ Ev.now a
theorem Ev.bind1 {α β : Type} {g : Nat → Option α} {f : Nat → α → Option β} {a : α} {r : β} (h : Ev g a) (k : Ev (fun n => f n a) r) : Ev (fun n => (g n).bind (f n)) r := Ev.bind h k
theorem Ev.pure_bind {α β : Type} {o : Option α} {f : Nat → α → Option β} {a : α} {r : β} (h : o = Option.some a) (k : Ev (fun n => f n a) r) : Ev (fun n => o.bind (f n)) r := by
  subst h; exact k
theorem Ev.two {α β : Type} {g : Nat → Option α} {f : Nat → Option β} {a : α} {b : β} (h : Ev g a) (k : Ev f b) : ∃ n, g n = Option.some a ∧ f n = Option.some b := by
  obtain ⟨K, h⟩ := h
  obtain ⟨K', k⟩ := k
  exact ⟨max K K', h _ (by omega), k _ (by omega)⟩
theorem w64 {n : Int} (h0 : -9223372036854775808 ≤ n) (h1 : n < 9223372036854775808) : wrap64 n = n := by unfold wrap64; omega
theorem w64_emod (n : Int) : wrap64 n % 18446744073709551616 = n % 18446744073709551616 := by unfold wrap64; omega
theorem w64_congr {a b : Int} (h : a % 18446744073709551616 = b % 18446744073709551616) : wrap64 a = wrap64 b := by unfold wrap64; omega
theorem w64_lo (n : Int) : -9223372036854775808 ≤ wrap64 n := by unfold wrap64; omega
theorem w64_hi (n : Int) : wrap64 n < 9223372036854775808 := by unfold wrap64; omega
theorem int_wf {a : Int} (h : (Lit.int .i64 a).wf = true) : -9223372036854775808 ≤ a ∧ a ≤ 9223372036854775807 := by
  simp [Lit.wf] at h
  exact ⟨h.1, h.2⟩

/-! ### words on lists by their numbers -/
theorem rd_q (xs : List Int) (i : Nat) : rd xs (i : Int) = (xs[i]?).getD 0 := by simp [rd, List.getD_eq_getElem?_getD]
theorem rd_el {xs : List Int} {i : Nat} (h : i < xs.length) : rd xs (i : Int) = xs[i] := by rw [rd_q, List.getElem?_eq_getElem h]; rfl
theorem rd_mem {xs : List Int} {i : Nat} (h : i < xs.length) : rd xs (i : Int) ∈ xs := by rw [rd_el h]; exact List.getElem_mem h
theorem rd_ext {a b : List Int} (hl : a.length = b.length) (h : ∀ p < a.length, rd a (p : Int) = rd b (p : Int)) : a = b := by
  apply List.ext_getElem hl
  intro p h1 h2
  rw [← rd_el h1, ← rd_el h2]
  exact h p h1
theorem rd_set (xs : List Int) (i p : Nat) (v : Int) (hi : i < xs.length) : rd (xs.set i v) (p : Int) = if p = i then v else rd xs (p : Int) := by
  rw [rd_q, rd_q, List.getElem?_set]
  by_cases c : p = i
  · subst c; rw [if_pos rfl, if_pos rfl, if_pos hi]; rfl
  · rw [if_neg c, if_neg (fun h => c h.symm)]
theorem rd_rev {xs : List Int} {p : Nat} (h : p < xs.length) : rd xs.reverse (p : Int) = rd xs ((xs.length - 1 - p : Nat) : Int) := by
  rw [rd_el (by simpa using h), rd_el (by omega), List.getElem_reverse]
theorem rd_tab (f : Nat → Int) {n p : Nat} (h : p < n) : rd ((List.range n).map f) (p : Int) = f p := by
  rw [rd_el (by simpa using h)]; simp
theorem rd_cons0 (x : Int) (t : List Int) : rd (x :: t) 0 = x := rfl
theorem rd_append_left {a b : List Int} {p : Nat} (h : p < a.length) : rd (a ++ b) (p : Int) = rd a (p : Int) := by rw [rd_q, rd_q, List.getElem?_append_left h]
theorem rd_append_right {a b : List Int} {p : Nat} : rd (a ++ b) ((a.length + p : Nat) : Int) = rd b (p : Int) := by rw [rd_q, rd_q, List.getElem?_append_right (by omega)]; congr 2; omega
theorem rd_drop (a : List Int) (i p : Nat) : rd (a.drop i) (p : Int) = rd a ((i + p : Nat) : Int) := by rw [rd_q, rd_q, List.getElem?_drop]
theorem tab_succ (f : Nat → Int) (n : Nat) : (List.range (n + 1)).map f = (List.range n).map f ++ [f n] := by rw [List.range_succ, List.map_append]; rfl
/-! #### loops that compare -/
section
variable (L : Nat → List Int → List Int → Int → Int → Option Bool)
  (h0 : ∀ k x0 x1 x12 x13, L (k + 1) x0 x1 x12 x13 = if x13 < x12 then (if 0 ≤ x13 then (if x13 < (x0.length : Int) then (if x13 < (x1.length : Int) then (if (rd x0 x13) = (rd x1 x13) then (L k x0 x1 x12 (wrap64 (x13 + 1))) else (some false)) else (none)) else (none)) else (none)) else (some true))
include h0
theorem same_l0 (a b : List Int) (hl : a.length = b.length) (hb : (a.length : Int) ≤ 4611686018427387904) : Ev (fun k => L k a b (a.length : Int) 0) (decide (a = b)) := by
  have key : ∀ (d i : Nat), i + d = a.length → (∀ p < i, rd a (p : Int) = rd b (p : Int)) → Ev (fun k => L k a b (a.length : Int) (i : Int)) (decide (a = b)) := by
    intro d
    induction d with
    | zero =>
      intro i hi hp
      rw [decide_eq_true (rd_ext hl (fun p h => hp p (by omega)))]
      exact Ev.step (fun k => h0 k _ _ _ _) (Ev.neg (by omega) (Ev.now _))
    | succ d ih =>
      intro i hi hp
      have hw : wrap64 ((i : Int) + 1) = ((i + 1 : Nat) : Int) := by rw [w64 (by omega) (by omega)]; omega
      refine Ev.step (fun k => h0 k _ _ _ _) (Ev.pos (by omega) (Ev.pos (by omega) (Ev.pos (by omega) (Ev.pos (by omega) ?_))))
      by_cases c : rd a (i : Int) = rd b (i : Int)
      · refine Ev.pos c ?_
        rw [hw]
        exact ih (i + 1) (by omega) (fun p h => by
          by_cases e : p = i
          · rw [e]; exact c
          · exact hp p (by omega))
      · rw [decide_eq_false (fun e => c (by rw [e]))]
        exact Ev.neg c (Ev.now _)
  exact key a.length 0 (by omega) (fun p h => by omega)
end
section
variable (L : Nat → List Int → List Int → Int → Option (List Int))
  (h0 : ∀ k x0 x3 x4, L (k + 1) x0 x3 x4 = if x4 ≥ 0 then (if 0 ≤ x4 then (if x4 < (x0.length : Int) then (if x3.length < 17592186044416 then (L k x0 (x3 ++ [rd x0 x4]) (wrap64 (x4 - 1))) else (none)) else (none)) else (none)) else (some x3))
include h0
theorem back_l0 (a : List Int) (hb : (a.length : Int) ≤ 1048576) : Ev (fun k => L k a [] (wrap64 ((a.length : Int) - 1))) a.reverse := by
  have key : ∀ (i : Nat) (acc : List Int), i ≤ a.length → acc.length + i = a.length → acc = (a.drop i).reverse → Ev (fun k => L k a acc ((i : Int) - 1)) a.reverse := by
    intro i
    induction i with
    | zero =>
      intro acc hi hl he
      rw [he, List.drop_zero]
      exact Ev.step (fun k => h0 k _ _ _) (Ev.neg (by omega) (Ev.now _))
    | succ i ih =>
      intro acc hi hl he
      have e : ((i + 1 : Nat) : Int) - 1 = (i : Int) := by omega
      have hw : wrap64 ((i : Int) - 1) = (i : Int) - 1 := w64 (by omega) (by omega)
      rw [e]
      refine Ev.step (fun k => h0 k _ _ _) (Ev.pos (by omega) (Ev.pos (by omega) (Ev.pos (by omega) (Ev.pos (by omega) ?_))))
      rw [hw]
      refine ih (acc ++ [rd a (i : Int)]) (by omega) (by simp; omega) ?_
      rw [he, List.drop_eq_getElem_cons (show i < a.length by omega), List.reverse_cons, rd_el (by omega)]
  have hw : wrap64 ((a.length : Int) - 1) = (a.length : Int) - 1 := w64 (by omega) (by omega)
  rw [hw]
  exact key a.length [] (by omega) (by simp) (by simp)
end

/-! ### bounds -/
theorem in_f (a b c : Int) : impl_in.f a b c = spec_l1In.f a b c := rfl
theorem l1In_f (a b c : Int) : spec_l1In.f a b c = some (decide (b ≤ a ∧ a ≤ c)) := by
  unfold spec_l1In.f
  by_cases h : b ≤ a
  · rw [if_pos h]; simp [h]
  · rw [if_neg h]; simp [h]

/-! ### a list's rest -/
theorem drop_rd {xs : List Int} {i : Nat} {y : Int} {r : List Int} (h : xs.drop i = y :: r) : rd xs (i : Int) = y := by
  have := congrArg (·[0]?) h
  rw [rd_q]
  simp at this
  rw [this]; rfl
theorem drop_tail {xs : List Int} {i : Nat} {y : Int} {r : List Int} (h : xs.drop i = y :: r) : xs.drop (i + 1) = r := by
  rw [← List.tail_drop, h]; rfl
theorem w64_succ {d : Nat} (h : d < 4611686018427387904) : wrap64 ((d : Int) + 1) = ((d + 1 : Nat) : Int) := by rw [w64 (by omega) (by omega)]; omega
theorem w64_sub {a d : Nat} (h : d ≤ a) (ha : a < 4611686018427387904) : wrap64 ((a : Int) - (d : Int)) = ((a - d : Nat) : Int) := by rw [w64 (by omega) (by omega)]; omega

/-! ### the cursor's draws: always there, and within their bounds -/
theorem u64_wraps (n : Int) (h0 : 0 ≤ n) (h1 : n < 2 ^ 64) : IntKind.u64.wrap n = n := by simp [IntKind.wrap, IntKind.bits, IntKind.signed]; omega
theorem u64_range (n : Int) : 0 ≤ IntKind.u64.wrap n ∧ IntKind.u64.wrap n < 18446744073709551616 := by
  simp [IntKind.wrap, IntKind.bits, IntKind.signed]
  omega
theorem and255 (x : Int) (h0 : 0 ≤ x) (h1 : x < 18446744073709551616) : Go.bits .and .u64 x 255 = x % 256 :=
  Go.bits_mask .u64 64 (by decide) u64_wraps 8 (by decide) x h0 (by simpa using h1)
theorem top255 (n : Int) : 0 ≤ wrap64 (Go.bits .and .u64 (IntKind.u64.wrap n / 1099511627776) 255) ∧ wrap64 (Go.bits .and .u64 (IntKind.u64.wrap n / 1099511627776) 255) ≤ 255 := by
  have h := u64_range n
  generalize IntKind.u64.wrap n = m at h
  rw [and255 _ (by omega) (by omega), w64 (by omega) (by omega)]
  omega
def Bytes (l : List Int) : Prop := ∀ i : Nat, 0 ≤ rd l (i : Int) ∧ rd l (i : Int) ≤ 255
theorem Bytes.of {l : List Int} (h : ∀ x ∈ l, (Lit.int .u8 x).wf = true) : Bytes l := by
  intro i
  have : ∀ x ∈ l, 0 ≤ x ∧ x ≤ 255 := fun x hx => by
    have := h x hx
    simp [Lit.wf] at this
    exact ⟨this.1, this.2⟩
  by_cases c : i < l.length
  · have e : rd l (i : Int) = l[i] := by simp [rd, List.getD_eq_getElem?_getD, c]
    rw [e]; exact this _ (List.getElem_mem c)
  · have e : rd l (i : Int) = 0 := by simp [rd, List.getD_eq_getElem?_getD, c]
    rw [e]; omega
theorem next_ev (l : List Int) (hl : Bytes l) (p s : Int) (hp : 0 ≤ p ∧ p ≤ 4611686018427387904) : ∃ v t, spec_l1Cur_next.f l p s = some (v, p + 1, t) ∧ 0 ≤ v ∧ v ≤ 255 := by
  have hw : wrap64 (p + 1) = p + 1 := w64 (by omega) (by omega)
  unfold spec_l1Cur_next.f
  rw [hw]
  by_cases c : p < (l.length : Int)
  · rw [if_pos c, if_pos hp.1, if_pos (by omega)]
    have hb := hl p.toNat
    rw [show ((p.toNat : Nat) : Int) = p by omega] at hb
    refine ⟨_, _, rfl, ?_⟩
    rw [w64 (by omega) (by omega)]
    exact hb
  · rw [if_neg c, if_neg (by omega)]
    exact ⟨_, _, rfl, top255 _⟩
/-- What a draw below n gives. -/
structure Drew (p n : Int) (v q : Int) : Prop where
  lo : 0 ≤ v
  hi : 1 < n → v < n
  one : n ≤ 1 → v = 0
  from_ : p ≤ q
  to_ : q ≤ p + 2
theorem pick_ev (l : List Int) (hl : Bytes l) (p s n : Int) (hp : 0 ≤ p ∧ p ≤ 4611686018427387000) : ∃ v q t, spec_l1Cur_pick.f l p s n = some (v, q, t) ∧ Drew p n v q := by
  unfold spec_l1Cur_pick.f
  by_cases c : n ≤ 1
  · rw [if_pos c]
    exact ⟨0, p, s, rfl, ⟨by omega, by omega, fun _ => rfl, by omega, by omega⟩⟩
  · rw [if_neg c]
    obtain ⟨v, t, e, h0, h1⟩ := next_ev l hl p s (by omega)
    rw [e, Option.bind_some]
    by_cases c2 : n > 200
    · rw [if_pos c2]
      obtain ⟨v2, t2, e2, g0, g1⟩ := next_ev l hl (p + 1) t (by omega)
      rw [e2, Option.bind_some, if_neg (by omega)]
      refine ⟨_, _, _, rfl, ?_⟩
      rw [w64 (n := v * 256) (by omega) (by omega), w64 (by omega) (by omega)]
      exact ⟨Int.tmod_nonneg _ (by omega), fun _ => Int.tmod_lt_of_pos _ (by omega), fun h => absurd h c, by dsimp only; omega, by dsimp only; omega⟩
    · rw [if_neg c2, if_neg (by omega)]
      exact ⟨_, _, _, rfl, ⟨Int.tmod_nonneg _ h0, fun _ => Int.tmod_lt_of_pos _ (by omega), fun h => absurd h c, by dsimp only; omega, by dsimp only; omega⟩⟩
theorem among_ev (l : List Int) (hl : Bytes l) (p s : Int) (hp : 0 ≤ p ∧ p ≤ 4611686018427387000) (xs : List Int) (h : 0 < xs.length) : ∃ v q t, spec_l1Cur_among.f l p s xs = some (v, q, t) ∧ v ∈ xs ∧ p ≤ q ∧ q ≤ p + 2 := by
  obtain ⟨v, q, t, e, d⟩ := pick_ev l hl p s xs.length hp
  have hlt : v < (xs.length : Int) := by
    by_cases c : 1 < (xs.length : Int)
    · exact d.hi c
    · have := d.one (by omega); omega
  have h0 := d.lo
  unfold spec_l1Cur_among.f
  rw [e, Option.bind_some, if_pos h0, if_pos hlt]
  refine ⟨_, _, _, rfl, ?_, d.from_, d.to_⟩
  have e : rd xs v = xs[v.toNat]'(by omega) := by simp [rd, List.getD_eq_getElem?_getD, show v.toNat < xs.length by omega]
  rw [e]
  exact List.getElem_mem _
theorem one_ev (l : List Int) (hl : Bytes l) (p s n : Int) (hp : 0 ≤ p ∧ p ≤ 4611686018427387000) : ∃ b q t, spec_l1Cur_one.f l p s n = some (b, q, t) ∧ p ≤ q ∧ q ≤ p + 2 := by
  obtain ⟨v, q, t, e, d⟩ := pick_ev l hl p s n hp
  unfold spec_l1Cur_one.f
  rw [e, Option.bind_some]
  exact ⟨_, _, _, rfl, d.from_, d.to_⟩
theorem big_f (a b : List Int) : laws_big.f a b = some (decide (1048576 < (a.length : Int) ∨ 1048576 < (a.length : Int) + (b.length : Int))) := by
  unfold laws_big.f
  by_cases c : (a.length : Int) > 1048576
  · rw [if_pos c, decide_eq_true (.inl c)]
  · rw [if_neg c, w64 (by omega) (by omega)]
    congr 1
    apply decide_eq_decide.2
    omega

/-! ### texts as lists of bytes -/
theorem str_size (l : List Int) : (strOfNums l).size = l.length := by
  show (strOfNums l).data.size = _
  simp [strOfNums]
theorem str_app (a b : List Int) : strOfNums (a ++ b) = strOfNums a ++ strOfNums b := by
  apply ByteArray.ext
  rw [ByteArray.data_append]
  simp [strOfNums]
theorem bt_str {l : List Int} {i : Nat} (h : i < l.length) (h0 : 0 ≤ l[i] ∧ l[i] ≤ 255) : bt (strOfNums l) (i : Int) = l[i] := by
  have hs : i < (strOfNums l).size := by rw [str_size]; exact h
  unfold bt
  rw [dif_pos (by simpa using hs)]
  have : (strOfNums l)[((i : Int)).toNat]'(by simpa using hs) = UInt8.ofNat (l[i]).toNat := by
    show (strOfNums l).data[((i : Int)).toNat]'_ = _
    simp [strOfNums]
  rw [this, UInt8.toNat_ofNat']
  omega
theorem ext_size (s : ByteArray) (a b : Nat) : (s.extract a b).size = min b s.size - a := ByteArray.size_extract
theorem app_size (a b : ByteArray) : (a ++ b).size = a.size + b.size := ByteArray.size_append
def bytesL (s : ByteArray) (k : Nat) : List Int := (List.range k).map fun (i : Nat) => bt s (i : Int)
theorem bytesL_length (s : ByteArray) (k : Nat) : (bytesL s k).length = k := by simp [bytesL]
theorem ext_bytes (s : ByteArray) {k : Nat} (h : k ≤ s.size) : s.extract 0 k = strOfNums (bytesL s k) := by
  apply ByteArray.ext
  apply Array.ext
  · show (s.extract 0 k).size = (strOfNums (bytesL s k)).size
    rw [ext_size, str_size, bytesL_length]; omega
  · intro i h1 h2
    have hi : i < k := by
      have : i < (s.extract 0 k).size := h1
      rw [ext_size] at this; omega
    have hs : i < s.size := by omega
    have e1 : (s.extract 0 k).data[i] = s[i]'hs := by
      simp [ByteArray.data_extract]
      rfl
    have e2 : bt s (i : Int) = ((s[i]'hs).toNat : Int) := by unfold bt; rw [dif_pos (by simpa using hs)]; rfl
    rw [e1]
    simp only [strOfNums, bytesL, List.getElem_toArray, List.getElem_map, List.getElem_range, e2]
    simp
theorem whole_bytes (s : ByteArray) : strOfNums (bytesL s s.size) = s := by
  rw [← ext_bytes s (Nat.le_refl _)]
  exact ByteArray.extract_zero_size
theorem str_inj {a b : List Int} (ha : ∀ x ∈ a, 0 ≤ x ∧ x ≤ 255) (hb : ∀ x ∈ b, 0 ≤ x ∧ x ≤ 255) (h : strOfNums a = strOfNums b) : a = b := by
  have hl : a.length = b.length := by rw [← str_size, ← str_size, h]
  apply List.ext_getElem hl
  intro i h1 h2
  rw [← bt_str h1 (ha _ (List.getElem_mem h1)), ← bt_str h2 (hb _ (List.getElem_mem h2)), h]
theorem toList_inj {a b : ByteArray} (h : a.toList = b.toList) : a = b := by
  rw [ByteArray.toList_eq, ByteArray.toList_eq] at h
  apply ByteArray.ext
  exact Array.toList_inj.1 h
theorem bytesL_range (s : ByteArray) (k : Nat) : ∀ x ∈ bytesL s k, 0 ≤ x ∧ x ≤ 255 := by
  intro x hx
  obtain ⟨i, _, rfl⟩ := List.mem_map.1 hx
  exact bt_range _ _
theorem word_eq {L : List Int} (hL : ∀ x ∈ L, 0 ≤ x ∧ x ≤ 255) (s : ByteArray) {k : Nat} (hk : k ≤ s.size) : (strOfNums L).toList = (s.extract 0 k).toList ↔ L = bytesL s k := by
  rw [ext_bytes s hk]
  exact ⟨fun h => str_inj hL (bytesL_range s k) (toList_inj h), fun h => by rw [h]⟩
theorem bytesL_succ (s : ByteArray) (k : Nat) : bytesL s (k + 1) = bytesL s k ++ [bt s (k : Int)] := by unfold bytesL; rw [List.range_succ, List.map_append]; rfl

/-! ### short steps -/
def sh (n : Int) : Int := if n % 2 = 0 then n / 2 else (3 * n + 1) / 2
/-- The number behind so many short steps. -/
def it : Nat → Int → Int
  | 0, n => n
  | k + 1, n => sh (it k n)
/-- How many of the numbers ahead of that are odd. -/
def od : Nat → Int → Nat
  | 0, _ => 0
  | k + 1, n => od k n + (if it k n % 2 = 0 then 0 else 1)
def bitL (n : Int) (k : Nat) : List Int := (List.range k).map fun (i : Nat) => 48 + it i n % 2
theorem sh_pos {n : Int} (h : 1 ≤ n) : 1 ≤ sh n := by unfold sh; split <;> omega
theorem sh_grow {n : Int} (h : 1 ≤ n) : 2 * (sh n + 1) ≤ 3 * (n + 1) := by unfold sh; split <;> omega
theorem it_pos {n : Int} (h : 1 ≤ n) : ∀ k, 1 ≤ it k n := by
  intro k
  induction k with
  | zero => exact h
  | succ k ih => exact sh_pos ih
theorem it_grow {n : Int} (h : 1 ≤ n) : ∀ k : Nat, 2 ^ k * (it k n + 1) ≤ 3 ^ k * (n + 1) := by
  intro k
  induction k with
  | zero => simp [it]
  | succ k ih =>
    have h1 := sh_grow (it_pos h k)
    have hp : (0 : Int) < 2 ^ k := Int.pow_pos (by omega)
    have e1 : (2 : Int) ^ (k + 1) * (it (k + 1) n + 1) = 2 ^ k * (2 * (sh (it k n) + 1)) := by rw [Int.pow_succ, Int.mul_assoc]; rfl
    have e2 : (3 : Int) ^ (k + 1) * (n + 1) = 3 * (3 ^ k * (n + 1)) := by rw [Int.pow_succ, Int.mul_comm (3 ^ k) 3, Int.mul_assoc]
    have h2 : (2 : Int) ^ k * (2 * (sh (it k n) + 1)) ≤ 2 ^ k * (3 * (it k n + 1)) := Int.mul_le_mul_of_nonneg_left h1 (by omega)
    have e3 : (2 : Int) ^ k * (3 * (it k n + 1)) = 3 * (2 ^ k * (it k n + 1)) := by rw [← Int.mul_assoc, Int.mul_comm (2 ^ k) 3, Int.mul_assoc]
    omega
theorem pow32 {k : Nat} (h : k ≤ 20) : (0 : Int) < 2 ^ k ∧ (2 : Int) ^ k ≤ 1048576 ∧ (3 : Int) ^ k ≤ 3326 * 2 ^ k ∧ (0 : Int) < 3 ^ k ∧ (3 : Int) ^ k ≤ 3486784401 := by
  have : ∀ i : Fin 21, (0 : Int) < 2 ^ i.val ∧ (2 : Int) ^ i.val ≤ 1048576 ∧ (3 : Int) ^ i.val ≤ 3326 * 2 ^ i.val ∧ (0 : Int) < 3 ^ i.val ∧ (3 : Int) ^ i.val ≤ 3486784401 := by decide
  exact this ⟨k, by omega⟩
theorem it_small {n : Int} (h : 1 ≤ n) {k : Nat} (hk : k ≤ 20) : it k n + 1 ≤ 3326 * (n + 1) := by
  obtain ⟨p0, p1, p2, _⟩ := pow32 hk
  have h1 := it_grow h k
  have h2 : (3 : Int) ^ k * (n + 1) ≤ 3326 * 2 ^ k * (n + 1) := Int.mul_le_mul_of_nonneg_right p2 (by omega)
  have e : (3326 : Int) * 2 ^ k * (n + 1) = 2 ^ k * (3326 * (n + 1)) := by rw [Int.mul_comm 3326, Int.mul_assoc]
  exact Int.le_of_mul_le_mul_left (show 2 ^ k * (it k n + 1) ≤ 2 ^ k * (3326 * (n + 1)) by omega) p0
/-- What is added, a power of 2 as often as you like, goes by threes. -/
theorem it_add (n q : Int) (k : Nat) : ∀ j ≤ k, it j (n + q * 2 ^ k) = it j n + q * 3 ^ od j n * 2 ^ (k - j) ∧ od j (n + q * 2 ^ k) = od j n := by
  intro j
  induction j with
  | zero => intro _; simp [it, od]
  | succ j ih =>
    intro hj
    obtain ⟨e, o⟩ := ih (by omega)
    have hp : (2 : Int) ^ (k - j) = 2 ^ (k - (j + 1)) * 2 := by rw [← Int.pow_succ]; congr 1; omega
    generalize hE : q * 3 ^ od j n * 2 ^ (k - (j + 1)) = E
    have e1 : it j (n + q * 2 ^ k) = it j n + 2 * E := by rw [e, hp, ← Int.mul_assoc, hE, Int.mul_comm]
    have hpar : it j (n + q * 2 ^ k) % 2 = it j n % 2 := by rw [e1]; omega
    simp only [it, od]
    rw [hpar, o]
    refine ⟨?_, rfl⟩
    unfold sh
    rw [hpar]
    by_cases c : it j n % 2 = 0
    · rw [if_pos c, if_pos c, if_pos c, e1, Nat.add_zero, hE]; omega
    · have e3 : q * 3 ^ (od j n + 1) * 2 ^ (k - (j + 1)) = E * 3 := by
        rw [← hE, Int.pow_succ, ← Int.mul_assoc, Int.mul_assoc (q * 3 ^ od j n) 3, Int.mul_comm 3 (2 ^ (k - (j + 1))), ← Int.mul_assoc]
      rw [if_neg c, if_neg c, if_neg c, e1, e3]; omega
theorem bitL_add (n q : Int) (k : Nat) : bitL (n + q * 2 ^ k) k = bitL n k := by
  unfold bitL
  refine List.map_congr_left (fun i hi => ?_)
  have hik := List.mem_range.1 hi
  have hp : (2 : Int) ^ (k - i) = 2 ^ (k - (i + 1)) * 2 := by rw [← Int.pow_succ]; congr 1; omega
  rw [(it_add n q k i (by omega)).1, hp, ← Int.mul_assoc]
  omega
theorem odd_pow (o : Nat) : (3 : Int) ^ o % 2 = 1 := by
  induction o with
  | zero => rfl
  | succ o ih => rw [Int.pow_succ]; omega
theorem bitL_succ (n : Int) (k : Nat) : bitL n (k + 1) = bitL n k ++ [48 + it k n % 2] := by unfold bitL; rw [List.range_succ, List.map_append]; rfl
theorem bitL_length (n : Int) (k : Nat) : (bitL n k).length = k := by simp [bitL]
theorem bitL_range (n : Int) (k : Nat) : ∀ x ∈ bitL n k, x = 48 ∨ x = 49 := by
  intro x hx
  obtain ⟨i, _, rfl⟩ := List.mem_map.1 hx
  omega
theorem bitL_take {n m : Int} {k : Nat} (h : bitL n (k + 1) = bitL m (k + 1)) : bitL n k = bitL m k ∧ it k n % 2 = it k m % 2 := by
  rw [bitL_succ, bitL_succ] at h
  have := List.append_inj h (by rw [bitL_length, bitL_length])
  refine ⟨this.1, ?_⟩
  have h2 := this.2
  simp at h2
  omega
/-- The same words: the same remainders. -/
theorem same_word : ∀ (k : Nat) (a b : Int), bitL a k = bitL b k → ∃ q, a = b + q * 2 ^ k := by
  intro k
  induction k with
  | zero => intro a b _; exact ⟨a - b, by simp; omega⟩
  | succ k ih =>
    intro a b h
    obtain ⟨h1, h2⟩ := bitL_take h
    obtain ⟨q, hq⟩ := ih a b h1
    have e := (it_add b q k k (by omega)).1
    rw [Nat.sub_self, Int.pow_zero, Int.mul_one, ← hq] at e
    have ho := odd_pow (od k b)
    have hq2 : q % 2 = 0 := by
      have hm : (q * 3 ^ od k b) % 2 = 0 := by omega
      rw [Int.mul_emod, ho] at hm
      omega
    refine ⟨q / 2, ?_⟩
    rw [Int.pow_succ, Int.mul_comm (2 ^ k) 2, ← Int.mul_assoc, show q / 2 * 2 = q by omega]
    exact hq
/-- The other number has the other letter. -/
theorem flip_word (n : Int) (k : Nat) : bitL (n + 2 ^ k) k = bitL n k ∧ it k (n + 2 ^ k) % 2 ≠ it k n % 2 := by
  have e := (it_add n 1 k k (by omega)).1
  have e2 := bitL_add n 1 k
  rw [Int.one_mul] at e e2
  rw [Int.one_mul, Nat.sub_self, Int.pow_zero, Int.mul_one] at e
  have ho := odd_pow (od k n)
  exact ⟨e2, by rw [e]; omega⟩
theorem od_le (n : Int) : ∀ k, od k n ≤ k := by
  intro k
  induction k with
  | zero => exact Nat.le_refl _
  | succ k ih => simp only [od]; split <;> omega

/-! ### parity words -/
theorem tm_eq {a b : Int} (h : 0 ≤ a) : Int.tmod a b = a % b := Int.tmod_eq_emod_of_nonneg h
theorem td_eq {a b : Int} (h : 0 ≤ a) : Int.tdiv a b = a / b := Int.tdiv_eq_ediv_of_nonneg h
theorem bitL_byte (n : Int) (k : Nat) : ∀ x ∈ bitL n k, 0 ≤ x ∧ x ≤ 255 := fun x hx => by have := bitL_range n k x hx; omega
theorem short_f {n : Int} (h : 1 ≤ n ∧ n ≤ 1000000000000) : impl_short.f n = some (sh n) ∧ spec_stShort.f n = some (sh n) := by
  unfold impl_short.f spec_stShort.f sh
  rw [tm_eq (by omega)]
  by_cases c : n % 2 = 0
  · rw [if_pos c, if_pos c, td_eq (by omega), w64 (by omega) (by omega)]; exact ⟨rfl, rfl⟩
  · rw [if_neg c, if_neg c, w64 (n := 3 * n) (by omega) (by omega), w64 (n := 3 * n + 1) (by omega) (by omega), td_eq (by omega), w64 (by omega) (by omega)]; exact ⟨rfl, rfl⟩
theorem letter_f {x : Int} (h : 0 ≤ x) : wrap64 (48 + Int.tmod x 2) % 256 = 48 + x % 2 := by
  rw [tm_eq h, w64 (by omega) (by omega)]; omega
theorem parities_ev {n : Int} (h1 : 1 ≤ n) (k : Nat) (hk : k ≤ 20) (hb : ∀ j < k, it j n ≤ 1000000000000) : Ev (fun f => impl_parities.f f n (k : Int)) (strOfNums (bitL n k), it k n) := by
  have key : ∀ (d i : Nat), i + d = k → Ev (fun f => impl_parities.l0 f (it i n) (bitL n i) (k : Int) (i : Int)) (strOfNums (bitL n k), it k n) := by
    intro d
    induction d with
    | zero =>
      intro i hi
      obtain rfl : i = k := by omega
      exact Ev.step (fun f => by rw [impl_parities.l0]) (Ev.neg (by omega) (Ev.now _))
    | succ d ih =>
      intro i hi
      have hp := it_pos h1 i
      have hl := bitL_length n i
      refine Ev.step (fun f => by rw [impl_parities.l0]) (Ev.pos (by omega) (Ev.pos (by omega) (Ev.pure_bind (short_f ⟨hp, hb i (by omega)⟩).1 ?_)))
      rw [letter_f (by omega), w64_succ (by omega), ← bitL_succ]
      exact ih (i + 1) (by omega)
  exact key k 0 (by omega)
def placeB (n : Int) : Bool := decide (1 ≤ n ∧ n ≤ 1000000000000)
theorem isPlace_b (n : Int) : impl_isPlace.f n = some (placeB n) := by unfold impl_isPlace.f; rw [in_f, l1In_f]; rfl
theorem stNumber_b (n : Int) : spec_stNumber.f n = some (placeB n) := by unfold spec_stNumber.f; rw [l1In_f]; rfl
theorem placeB_iff (n : Int) : placeB n = true ↔ 1 ≤ n ∧ n ≤ 1000000000000 := decide_eq_true_iff
/-- No number of the first m behind n is too great. -/
def lowB (n : Int) (m : Nat) : Bool := (List.range m).all fun j => decide (it (j + 1) n ≤ 1000000000000)
theorem lowB_iff (n : Int) (m : Nat) : lowB n m = true ↔ ∀ j < m, it (j + 1) n ≤ 1000000000000 := by
  unfold lowB
  rw [List.all_eq_true]
  exact ⟨fun h j hj => by simpa using h j (List.mem_range.2 hj), fun h j hj => by simpa using h j (List.mem_range.1 hj)⟩
theorem low_it {n : Int} {m : Nat} (hn : n ≤ 1000000000000) (h : lowB n m = true) : ∀ j ≤ m, it j n ≤ 1000000000000 := by
  intro j hj
  cases j with
  | zero => exact hn
  | succ j => exact (lowB_iff n m).1 h j (by omega)
theorem reaches_ev (n : Int) (k : Int) (hk : k ≤ 1000000) : Ev (fun f => impl_reaches.f f n k) (placeB n && (decide (0 ≤ k ∧ k ≤ 20) && lowB n k.toNat)) := by
  refine Ev.pure_bind (isPlace_b n) ?_
  cases hp : placeB n with
  | false =>
    rw [Bool.false_and]
    exact Ev.neg (by simp) (Ev.step (fun f => by rw [impl_reaches.j0, if_pos rfl]) (Ev.now _))
  | true =>
    rw [Bool.true_and]
    obtain ⟨n1, n2⟩ := (placeB_iff n).1 hp
    refine Ev.pos rfl (Ev.pure_bind ((in_f k 0 20).trans (l1In_f k 0 20)) ?_)
    by_cases c : 0 ≤ k ∧ k ≤ 20
    · rw [decide_eq_true c, Bool.true_and]
      refine Ev.step (fun f => by rw [impl_reaches.j0, if_neg (show ¬ (!true) = true by simp)]) ?_
      have key : ∀ (d i : Nat), i + d = k.toNat → lowB n i = true → Ev (fun f => impl_reaches.l0 f (it i n) k (i : Int)) (lowB n k.toNat) := by
        intro d
        induction d with
        | zero =>
          intro i hi hl
          obtain rfl : i = k.toNat := by omega
          rw [hl]
          exact Ev.step (fun f => by rw [impl_reaches.l0]) (Ev.neg (by omega) (Ev.now _))
        | succ d ih =>
          intro i hi hl
          refine Ev.step (fun f => by rw [impl_reaches.l0]) (Ev.pos (by omega) (Ev.pure_bind (short_f ⟨it_pos n1 i, low_it n2 hl i (Nat.le_refl _)⟩).1 ?_))
          rw [w64_succ (by omega)]
          by_cases c2 : sh (it i n) > 1000000000000
          · have : lowB n k.toNat = false := by
              rw [← Bool.not_eq_true]
              intro h
              have := (lowB_iff n k.toNat).1 h i (by omega)
              exact absurd c2 (by show ¬ it (i + 1) n > _; omega)
            rw [this]
            exact Ev.pos c2 (Ev.now _)
          · refine Ev.neg c2 (ih (i + 1) (by omega) ((lowB_iff n (i + 1)).2 (fun j hj => ?_)))
            by_cases e : j = i
            · subst e; show sh (it j n) ≤ _; omega
            · exact (lowB_iff n i).1 hl j (by omega)
      exact key k.toNat 0 (by omega) rfl
    · rw [decide_eq_false c, Bool.false_and]
      exact Ev.step (fun f => by rw [impl_reaches.j0, if_pos (show (!false) = true from rfl)]) (Ev.now _)
def askP (n k : Int) : Bool := placeB n && decide (0 ≤ k ∧ k ≤ 20)
theorem askP_iff (n k : Int) : askP n k = true ↔ (1 ≤ n ∧ n ≤ 1000000000000) ∧ 0 ≤ k ∧ k ≤ 20 := by
  unfold askP; rw [Bool.and_eq_true, placeB_iff, decide_eq_true_iff]
theorem stAsked_b (n k : Int) : spec_stAsked.f n k = some (askP n k) := by
  unfold spec_stAsked.f askP
  rw [stNumber_b, Option.bind_some, l1In_f]
  cases placeB n <;> rfl
def wordP (n k : Int) : ByteArray × Bool := if askP n k = true ∧ lowB n (k.toNat - 1) = true then (strOfNums (bitL n k.toNat), true) else (⟨#[]⟩, false)
theorem ParityWord_ev (n k : Int) (hk : -1000000 ≤ k ∧ k ≤ 1000000) : Ev (fun f => impl_ParityWord.f f n k) (wordP n k) := by
  obtain ⟨K, hK, h1, h2⟩ : ∃ K, mx (wrap64 (k - 1)) (mn k 0) = K ∧ (1 ≤ k → K = k - 1) ∧ (k < 1 → K = k) := by
    refine ⟨_, rfl, ?_, ?_⟩ <;> intro h <;> rw [w64 (by omega) (by omega)] <;> unfold mx mn <;> split <;> split <;> omega
  have hr := reaches_ev n K (by omega)
  rw [← hK] at hr
  refine Ev.bind1 hr ?_
  rw [hK]
  by_cases c : askP n k = true ∧ lowB n (k.toNat - 1) = true
  · have hv : wordP n k = (strOfNums (bitL n k.toNat), true) := by unfold wordP; rw [if_pos c]
    obtain ⟨⟨n1, n2⟩, k0, k1⟩ := (askP_iff n k).1 c.1
    have hp : placeB n = true := (placeB_iff n).2 ⟨n1, n2⟩
    have hd : decide (0 ≤ K ∧ K ≤ 20) = true := decide_eq_true (by omega)
    have ht : K.toNat = k.toNat - 1 := by omega
    have hpar := parities_ev n1 k.toNat (by omega) (fun j hj => low_it n2 c.2 j (by omega))
    rw [show ((k.toNat : Nat) : Int) = k by omega] at hpar
    rw [hv, hp, hd, ht, c.2]
    exact Ev.pos rfl (Ev.pure_bind ((in_f k 0 20).trans (l1In_f k 0 20)) (Ev.pos (decide_eq_true ⟨k0, k1⟩) (Ev.bind1 hpar (Ev.now _))))
  · have hv : wordP n k = (⟨#[]⟩, false) := by unfold wordP; rw [if_neg c]
    rw [hv]
    by_cases c3 : (placeB n && (decide (0 ≤ K ∧ K ≤ 20) && lowB n K.toNat)) = true
    · have c4 := c3
      simp only [Bool.and_eq_true, decide_eq_true_iff] at c4
      have hk2 : ¬ (0 ≤ k ∧ k ≤ 20) := fun h => c ⟨by unfold askP; rw [c4.1, decide_eq_true h]; rfl, by rw [show k.toNat - 1 = K.toNat by omega]; exact c4.2.2⟩
      exact Ev.pos c3 (Ev.pure_bind ((in_f k 0 20).trans (l1In_f k 0 20)) (Ev.neg (by simpa using hk2) (Ev.now _)))
    · exact Ev.neg c3 (Ev.now _)
theorem l1Num_ev {x : Int} (h : 0 ≤ x) : Ev (fun f => spec_l1Num.f f (Int.tmod x 2)) (strOfNums [48 + x % 2]) := by
  rw [tm_eq h]
  refine Ev.step (fun f => by rw [spec_l1Num.f]) (Ev.pos (by omega) (Ev.some ?_))
  rw [w64 (by omega) (by omega), show (48 + x % 2) % 256 = 48 + x % 2 by omega]
theorem stWord_ev {n : Int} (hn : 1 ≤ n ∧ n ≤ 1000000000000) (k : Nat) (hk : k ≤ 20) : Ev (fun f => spec_stWord.f f n (k : Int)) (if lowB n (k - 1) = true then (strOfNums (bitL n k), it k n, true) else (⟨#[]⟩, 0, false)) := by
  have key : ∀ (d i : Nat), i + d = k → (∀ j, j < i → j < k - 1 → it (j + 1) n ≤ 1000000000000) → Ev (fun f => spec_stWord.l0 f (it i n) (k : Int) (strOfNums (bitL n i)) (i : Int)) (if lowB n (k - 1) = true then (strOfNums (bitL n k), it k n, true) else (⟨#[]⟩, 0, false)) := by
    intro d
    induction d with
    | zero =>
      intro i hi hl
      obtain rfl : i = k := by omega
      rw [if_pos ((lowB_iff n (i - 1)).2 (fun j hj => hl j (by omega) hj))]
      exact Ev.step (fun f => by rw [spec_stWord.l0]) (Ev.neg (by omega) (Ev.now _))
    | succ d ih =>
      intro i hi hl
      have hit : it i n ≤ 1000000000000 := by
        cases i with
        | zero => exact hn.2
        | succ i => exact hl i (by omega) (by omega)
      have hp := it_pos hn.1 i
      have hsz := str_size (bitL n i)
      have hsl := bitL_length n i
      have hs1 : (strOfNums [48 + it i n % 2]).size = 1 := str_size _
      have hcap : (strOfNums (bitL n i)).size + (strOfNums [48 + it i n % 2]).size ≤ 9223372036854775807 := by omega
      refine Ev.step (fun f => by rw [spec_stWord.l0]) (Ev.pos (by omega) (Ev.bind1 (l1Num_ev (by omega)) (Ev.pos hcap (Ev.pure_bind (short_f ⟨hp, hit⟩).2 (Ev.pure_bind (stNumber_b _) ?_)))))
      rw [← str_app, ← bitL_succ, w64_succ (by omega)]
      have hp2 := it_pos hn.1 (i + 1)
      by_cases c : placeB (sh (it i n)) = true
      · refine Ev.pos c (ih (i + 1) (by omega) (fun j h1 h2 => ?_))
        by_cases e : j = i
        · subst e; exact ((placeB_iff _).1 c).2
        · exact hl j (by omega) h2
      · refine Ev.neg c ?_
        rw [show wrap64 ((k : Int) - 1) = (k : Int) - 1 from w64 (by omega) (by omega)]
        have hgt : ¬ it (i + 1) n ≤ 1000000000000 := fun h => c ((placeB_iff _).2 ⟨hp2, h⟩)
        by_cases c2 : (i : Int) < (k : Int) - 1
        · rw [if_neg (fun h => hgt ((lowB_iff n (k - 1)).1 h i (by omega)))]
          exact Ev.pos c2 (Ev.now _)
        · exact Ev.neg c2 (ih (i + 1) (by omega) (fun j h1 h2 => hl j (by omega) h2))
  exact key k 0 (by omega) (fun j h => by omega)
theorem sParityWord_ev (n k : Int) : Ev (fun f => spec_ParityWord.f f n k) (wordP n k) := by
  unfold wordP
  refine Ev.pure_bind (stAsked_b n k) ?_
  by_cases c : askP n k = true
  · obtain ⟨hn, k0, k1⟩ := (askP_iff n k).1 c
    have hw := stWord_ev hn k.toNat (by omega)
    rw [show ((k.toNat : Nat) : Int) = k by omega] at hw
    refine Ev.pos c ?_
    by_cases c2 : lowB n (k.toNat - 1) = true
    · rw [if_pos c2] at hw
      rw [if_pos ⟨c, c2⟩]
      exact Ev.bind1 hw (Ev.now _)
    · rw [if_neg c2] at hw
      rw [if_neg (fun h => c2 h.2)]
      exact Ev.bind1 hw (Ev.now _)
  · rw [if_neg (fun h => c h.1)]
    exact Ev.neg c (Ev.now _)
def aftP (n k : Int) : Int × Bool := if askP n k = true ∧ lowB n k.toNat = true then (it k.toNat n, true) else (0, false)
theorem AfterShort_ev (n k : Int) (hk : k ≤ 1000000) : Ev (fun f => impl_AfterShort.f f n k) (aftP n k) := by
  unfold aftP
  refine Ev.bind1 (reaches_ev n k hk) ?_
  rw [← Bool.and_assoc]
  show Ev (fun f => if (askP n k && lowB n k.toNat) = true then _ else _) _
  by_cases c : askP n k = true ∧ lowB n k.toNat = true
  · obtain ⟨⟨n1, n2⟩, k0, k1⟩ := (askP_iff n k).1 c.1
    have hpar := parities_ev n1 k.toNat (by omega) (fun j hj => low_it n2 c.2 j (by omega))
    rw [show ((k.toNat : Nat) : Int) = k by omega] at hpar
    rw [if_pos c]
    exact Ev.pos (by rw [c.1, c.2]; rfl) (Ev.bind1 hpar (Ev.now _))
  · rw [if_neg c]
    exact Ev.neg (by rw [Bool.and_eq_true]; exact c) (Ev.now _)
theorem sAfterShort_ev (n k : Int) : Ev (fun f => spec_AfterShort.f f n k) (aftP n k) := by
  unfold aftP
  refine Ev.pure_bind (stAsked_b n k) ?_
  by_cases c : askP n k = true
  · obtain ⟨hn, k0, k1⟩ := (askP_iff n k).1 c
    have hw := stWord_ev hn k.toNat (by omega)
    rw [show ((k.toNat : Nat) : Int) = k by omega] at hw
    refine Ev.pos c ?_
    by_cases c2 : lowB n (k.toNat - 1) = true
    · rw [if_pos c2] at hw
      refine Ev.bind1 hw (Ev.pos rfl ?_)
      have hst : spec_stIf.f (it k.toNat n) = some (if placeB (it k.toNat n) = true then (it k.toNat n, true) else (0, false)) := by
        unfold spec_stIf.f
        rw [stNumber_b, Option.bind_some]
        split <;> rfl
      refine Ev.pure_bind hst ?_
      by_cases c3 : placeB (it k.toNat n) = true
      · have : lowB n k.toNat = true := (lowB_iff n k.toNat).2 (fun j hj => by
          by_cases e : j + 1 = k.toNat
          · rw [e]; exact ((placeB_iff _).1 c3).2
          · exact (lowB_iff n (k.toNat - 1)).1 c2 j (by omega))
        rw [if_pos c3, if_pos ⟨c, this⟩]
        exact Ev.now _
      · have : ¬ lowB n k.toNat = true := fun h => c3 ((placeB_iff _).2 ⟨it_pos hn.1 _, low_it hn.2 h _ (Nat.le_refl _)⟩)
        rw [if_neg c3, if_neg (fun h => this h.2)]
        exact Ev.now _
    · rw [if_neg c2] at hw
      have : ¬ lowB n k.toNat = true := fun h => c2 ((lowB_iff n _).2 (fun j hj => (lowB_iff n k.toNat).1 h j (by omega)))
      rw [if_neg (fun h => this h.2)]
      exact Ev.bind1 hw (Ev.neg (by simp) (Ev.now _))
  · rw [if_neg (fun h => c h.1)]
    exact Ev.neg c (Ev.now _)
/-! #### how many letters 1 -/
def cntP (n k : Int) : Int × Bool := if askP n k = true ∧ lowB n (k.toNat - 1) = true then ((od k.toNat n : Int), true) else (0, false)
theorem ones_word (n : Int) (k : Nat) : ∀ i ≤ k, impl_OddCount.ones (strOfNums (bitL n k)) i = (od i n : Int) := by
  intro i
  induction i with
  | zero => intro _; rfl
  | succ i ih =>
    intro hi
    have hb : bt (strOfNums (bitL n k)) (i : Int) = 48 + it i n % 2 := by
      rw [bt_str (by rw [bitL_length]; omega) (bitL_byte n k _ (List.getElem_mem _))]
      simp [bitL]
    simp only [impl_OddCount.ones, od, ih (by omega), hb]
    by_cases c : it i n % 2 = 0
    · rw [if_pos c, if_neg (by omega)]; omega
    · rw [if_neg c, if_pos (by omega)]; omega
theorem low_word (n : Int) (k : Nat) (hk : k ≤ 20) : impl_OddCount.low (strOfNums (bitL n k)) = true := by
  unfold impl_OddCount.low
  rw [str_size, bitL_length, Bool.and_eq_true, decide_eq_true_iff, List.all_eq_true]
  refine ⟨by omega, fun i hi => ?_⟩
  have := List.mem_range.1 hi
  rw [bt_str (by rw [bitL_length]; omega) (bitL_byte n k _ (List.getElem_mem _)), decide_eq_true_iff]
  have := bitL_range n k _ (List.getElem_mem (show i < (bitL n k).length by rw [bitL_length]; omega))
  omega
theorem OddCount_ev (n k : Int) (hk : -1000000 ≤ k ∧ k ≤ 1000000) : Ev (fun f => impl_OddCount.f f n k) (cntP n k) := by
  unfold cntP
  refine Ev.bind1 (ParityWord_ev n k hk) ?_
  unfold wordP
  by_cases c : askP n k = true ∧ lowB n (k.toNat - 1) = true
  · obtain ⟨hn, k0, k1⟩ := (askP_iff n k).1 c.1
    rw [if_pos c, if_pos c]
    refine Ev.pos (low_word n k.toNat (by omega)) (Ev.some ?_)
    rw [str_size, bitL_length, ones_word n k.toNat k.toNat (Nat.le_refl _)]
  · rw [if_neg c, if_neg c]
    exact Ev.pos rfl (Ev.now _)
theorem stOnes_ev (n : Int) (k : Nat) (hk : k ≤ 20) : Ev (fun f => spec_stOnes.f f (strOfNums (bitL n k))) (od k n : Int) := by
  have key : ∀ (d i : Nat), i + d = k → Ev (fun f => spec_stOnes.l0 f (strOfNums (bitL n k)) (od i n : Int) (i : Int)) (od k n : Int) := by
    intro d
    induction d with
    | zero =>
      intro i hi
      obtain rfl : i = k := by omega
      exact Ev.step (fun f => by rw [spec_stOnes.l0]) (Ev.neg (by rw [str_size, bitL_length]; omega) (Ev.now _))
    | succ d ih =>
      intro i hi
      have hb : bt (strOfNums (bitL n k)) (i : Int) = 48 + it i n % 2 := by
        rw [bt_str (by rw [bitL_length]; omega) (bitL_byte n k _ (List.getElem_mem _))]
        simp [bitL]
      have ho := od_le n i
      refine Ev.step (fun f => by rw [spec_stOnes.l0]) (Ev.pos (by rw [str_size, bitL_length]; omega) (Ev.pos (by omega) ?_))
      rw [hb, w64_succ (d := i) (by omega), w64_succ (d := od i n) (by omega)]
      have hn := ih (i + 1) (by omega)
      by_cases c : it i n % 2 = 0
      · have e : od (i + 1) n = od i n := by simp only [od]; rw [if_pos c]; omega
        rw [e] at hn
        exact Ev.neg (by omega) hn
      · have e : od (i + 1) n = od i n + 1 := by simp only [od]; rw [if_neg c]
        rw [e] at hn
        exact Ev.pos (by omega) hn
  exact key k 0 (by omega)
theorem sOddCount_ev (n k : Int) : Ev (fun f => spec_OddCount.f f n k) (cntP n k) := by
  unfold cntP
  refine Ev.pure_bind (stAsked_b n k) ?_
  by_cases c : askP n k = true
  · obtain ⟨hn, k0, k1⟩ := (askP_iff n k).1 c
    have hw := stWord_ev hn k.toNat (by omega)
    rw [show ((k.toNat : Nat) : Int) = k by omega] at hw
    refine Ev.pos c ?_
    by_cases c2 : lowB n (k.toNat - 1) = true
    · rw [if_pos c2] at hw
      rw [if_pos ⟨c, c2⟩]
      exact Ev.bind1 hw (Ev.bind1 (stOnes_ev n k.toNat (by omega)) (Ev.now _))
    · rw [if_neg c2] at hw
      rw [if_neg (fun h => c2 h.2)]
      refine Ev.bind1 hw (Ev.bind1 (a := (0 : Int)) ?_ (Ev.now _))
      show Ev (fun f => spec_stOnes.l0 f ⟨#[]⟩ 0 0) 0
      exact Ev.step (fun f => by rw [spec_stOnes.l0]) (Ev.neg (by decide) (Ev.now _))
  · rw [if_neg (fun h => c h.1)]
    exact Ev.neg c (Ev.now _)

/-! ### the number of a word -/
theorem shl_f {x : Int} {j : Nat} (hj : j ≤ 60) (h0 : 0 ≤ x * 2 ^ j) (h1 : x * 2 ^ j < 9223372036854775808) : shl .i64 x (j : Int) = x * 2 ^ j := by
  unfold shl
  rw [show min ((j : Int)).toNat IntKind.i64.bits = j by simp [IntKind.bits]; omega, i64_w, w64 (by omega) h1]
def letB (s : ByteArray) : Bool := impl_isParity.upTo s s.size && decide ((s.size : Int) ≤ 20)
theorem letB_iff (s : ByteArray) : letB s = true ↔ (∀ i < s.size, bt s (i : Int) = 48 ∨ bt s (i : Int) = 49) ∧ s.size ≤ 20 := by
  unfold letB impl_isParity.upTo
  rw [Bool.and_eq_true, List.all_eq_true, decide_eq_true_iff]
  refine ⟨fun h => ⟨fun i hi => by simpa using h.1 i (List.mem_range.2 hi), by omega⟩, fun h => ⟨fun i hi => by simpa using h.1 i (List.mem_range.1 hi), by omega⟩⟩
theorem isParity_f {s : ByteArray} (h : s.size ≤ 1000000) : impl_isParity.f s = some (letB s) := by
  unfold impl_isParity.f
  rw [if_pos (by omega)]; rfl
theorem stLetters_ev (s : ByteArray) (h : s.size ≤ 1000000) : Ev (fun f => spec_stLetters.f f s) (letB s) := by
  by_cases c : (s.size : Int) > 20
  · have : letB s = false := by unfold letB; rw [decide_eq_false (by omega), Bool.and_false]
    rw [this]
    exact Ev.pos c (Ev.now _)
  · refine Ev.neg c ?_
    have key : ∀ (d i : Nat), i + d = s.size → (∀ j < i, bt s (j : Int) = 48 ∨ bt s (j : Int) = 49) → Ev (fun f => spec_stLetters.l0 f s (i : Int)) (letB s) := by
      intro d
      induction d with
      | zero =>
        intro i hi hl
        rw [(letB_iff s).2 ⟨fun j hj => hl j (by omega), by omega⟩]
        exact Ev.step (fun f => by rw [spec_stLetters.l0]) (Ev.neg (by omega) (Ev.now _))
      | succ d ih =>
        intro i hi hl
        refine Ev.step (fun f => by rw [spec_stLetters.l0]) (Ev.pos (by omega) (Ev.pos (by omega) ?_))
        rw [w64_succ (by omega)]
        by_cases c1 : bt s (i : Int) = 48
        · refine Ev.pos c1 (ih (i + 1) (by omega) (fun j hj => ?_))
          by_cases e : j = i
          · subst e; exact .inl c1
          · exact hl j (by omega)
        · refine Ev.neg c1 ?_
          by_cases c2 : bt s (i : Int) = 49
          · refine Ev.pos c2 (ih (i + 1) (by omega) (fun j hj => ?_))
            by_cases e : j = i
            · subst e; exact .inr c2
            · exact hl j (by omega)
          · have : letB s = false := by
              rw [← Bool.not_eq_true]
              intro h
              rcases ((letB_iff s).1 h).1 i (by omega) with h | h
              · exact c1 h
              · exact c2 h
            rw [this]
            exact Ev.neg c2 (Ev.now _)
    exact key s.size 0 (by omega) (fun j h => by omega)
theorem low_small {n : Int} (h : 1 ≤ n ∧ n ≤ 8388608) {m : Nat} (hm : m ≤ 20) : lowB n m = true :=
  (lowB_iff n m).2 (fun j hj => by have := it_small h.1 (show j + 1 ≤ 20 by omega); omega)
theorem word_ev {n : Int} (h : 1 ≤ n ∧ n ≤ 8388608) {k : Nat} (hk : k ≤ 20) : Ev (fun f => impl_parities.f f n (k : Int)) (strOfNums (bitL n k), it k n) ∧ Ev (fun f => spec_stWord.f f n (k : Int)) (strOfNums (bitL n k), it k n, true) := by
  have hs := stWord_ev (n := n) ⟨h.1, by omega⟩ k hk
  rw [if_pos (low_small h (by omega))] at hs
  exact ⟨parities_ev h.1 k hk (fun j hj => by have := it_small h.1 (show j ≤ 20 by omega); omega), hs⟩
theorem numberOf_ev (s : ByteArray) (hs : letB s = true) : ∃ N : Int, 1 ≤ N ∧ N ≤ 2 ^ s.size ∧ bitL N s.size = bytesL s s.size ∧ Ev (fun f => impl_NumberOfWord.l0 f s 1 1) (N, true) ∧ Ev (fun f => spec_stOf.l0 f s 1 1 1) N := by
  obtain ⟨hl, h20⟩ := (letB_iff s).1 hs
  have key : ∀ (d j : Nat) (N : Int), j + d = s.size → 1 ≤ N → N ≤ 2 ^ j → bitL N j = bytesL s j → ∃ N' : Int, 1 ≤ N' ∧ N' ≤ 2 ^ s.size ∧ bitL N' s.size = bytesL s s.size ∧ Ev (fun f => impl_NumberOfWord.l0 f s N ((j + 1 : Nat) : Int)) (N', true) ∧ Ev (fun f => spec_stOf.l0 f s N (2 ^ j) ((j + 1 : Nat) : Int)) N' := by
    intro d
    induction d with
    | zero =>
      intro j N hj h1 h2 hb
      obtain rfl : j = s.size := by omega
      exact ⟨N, h1, h2, hb, Ev.step (fun f => by rw [impl_NumberOfWord.l0]) (Ev.neg (by omega) (Ev.now _)), Ev.step (fun f => by rw [spec_stOf.l0]) (Ev.neg (by omega) (Ev.now _))⟩
    | succ d ih =>
      intro j N hj h1 h2 hb
      obtain ⟨p0, p1, _⟩ := pow32 (show j ≤ 20 by omega)
      obtain ⟨r0, r1, _⟩ := pow32 (show j + 1 ≤ 20 by omega)
      have hps : (2 : Int) ^ (j + 1) = 2 ^ j * 2 := Int.pow_succ _ _
      have hw2 : wrap64 ((2 : Int) ^ j * 2) = 2 ^ (j + 1) := by rw [hps]; exact w64 (by omega) (by omega)
      have hN2 : wrap64 (N + 2 ^ j) = N + 2 ^ j := w64 (by omega) (by omega)
      obtain ⟨a1, a2⟩ := word_ev (n := N) ⟨h1, by omega⟩ (show j + 1 ≤ 20 by omega)
      have weq := word_eq (bitL_byte N (j + 1)) s (show j + 1 ≤ s.size by omega)
      have htn : (((j + 1 : Nat) : Int)).toNat = j + 1 := by omega
      have hj0 : 0 ≤ ((j + 1 : Nat) : Int) := by omega
      have hj1 : ((j + 1 : Nat) : Int) ≤ (s.size : Int) := by omega
      have hbit : bitL N (j + 1) = bytesL s (j + 1) ↔ 48 + it j N % 2 = bt s (j : Int) := by
        rw [bitL_succ, bytesL_succ, hb]
        constructor
        · intro h
          have := List.append_cancel_left h
          simpa using this
        · intro h; rw [h]
      have hy0 : rd [N, N + 2 ^ j] 0 = N := rfl
      have hy1 : rd [N, N + 2 ^ j] 1 = N + 2 ^ j := rfl
      by_cases c : 48 + it j N % 2 = bt s (j : Int)
      · have hB := hbit.2 c
        obtain ⟨N', g1, g2, g3, g4, g5⟩ := ih (j + 1) N (by omega) h1 (by omega) hB
        refine ⟨N', g1, g2, g3, ?_, ?_⟩
        · refine Ev.step (fun f => by rw [impl_NumberOfWord.l0]) (Ev.pos (by omega) (Ev.bind1 a1 (Ev.pos hj0 (Ev.pos ?_ ?_))))
          · rw [htn]; exact weq.2 hB
          · rw [w64_succ (by omega)]; exact g4
        · refine Ev.step (fun f => by rw [spec_stOf.l0, Option.bind_some]) (Ev.pos (by omega) ?_)
          rw [hN2]
          refine Ev.step (fun f => by rw [spec_stOf.l1]) (Ev.pos (by simp) (Ev.pos (by omega) (Ev.pos (by simp) ?_)))
          rw [hy0, hw2, w64_succ (by omega)]
          refine Ev.bind1 a2 (Ev.pos rfl (Ev.pos hj0 (Ev.pos hj1 (Ev.pos ?_ g5))))
          rw [htn]; exact weq.2 hB
      · obtain ⟨f1, f2⟩ := flip_word N j
        have hB : bitL (N + 2 ^ j) (j + 1) = bytesL s (j + 1) := by
          rw [bitL_succ, bytesL_succ, f1, hb]
          have := hl j (by omega)
          congr 2
          omega
        obtain ⟨b1, b2⟩ := word_ev (n := N + 2 ^ j) ⟨by omega, by omega⟩ (show j + 1 ≤ 20 by omega)
        have weq2 := word_eq (bitL_byte (N + 2 ^ j) (j + 1)) s (show j + 1 ≤ s.size by omega)
        obtain ⟨N', g1, g2, g3, g4, g5⟩ := ih (j + 1) (N + 2 ^ j) (by omega) (by omega) (by omega) hB
        have hne : ¬ (strOfNums (bitL N (j + 1))).toList = (s.extract 0 (((j + 1 : Nat) : Int)).toNat).toList := by
          rw [htn]; exact fun h => c (hbit.1 (weq.1 h))
        refine ⟨N', g1, g2, g3, ?_, ?_⟩
        · refine Ev.step (fun f => by rw [impl_NumberOfWord.l0]) (Ev.pos (by omega) (Ev.bind1 a1 (Ev.pos hj0 (Ev.neg hne ?_))))
          rw [show wrap64 (((j + 1 : Nat) : Int) - 1) = (j : Int) by rw [w64 (by omega) (by omega)]; omega, shl_f (by omega) (by omega) (by omega), Int.one_mul, hN2, w64_succ (by omega)]
          exact Ev.pos (by omega) g4
        · refine Ev.step (fun f => by rw [spec_stOf.l0, Option.bind_some]) (Ev.pos (by omega) ?_)
          rw [hN2]
          refine Ev.step (fun f => by rw [spec_stOf.l1]) (Ev.pos (by simp) (Ev.pos (by omega) (Ev.pos (by simp) ?_)))
          rw [hy0]
          refine Ev.bind1 a2 (Ev.pos rfl (Ev.pos hj0 (Ev.pos hj1 (Ev.neg hne ?_))))
          rw [show wrap64 ((0 : Int) + 1) = 1 from w64 (by omega) (by omega)]
          refine Ev.step (fun f => by rw [spec_stOf.l1]) (Ev.pos (by simp) (Ev.pos (by omega) (Ev.pos (by simp) ?_)))
          rw [hy1, hw2, w64_succ (by omega)]
          refine Ev.bind1 b2 (Ev.pos rfl (Ev.pos hj0 (Ev.pos hj1 (Ev.pos ?_ g5))))
          rw [htn]; exact weq2.2 hB
  obtain ⟨N, a, b, c, d, e⟩ := key s.size 0 1 (by omega) (by omega) (by simp) (by simp [bitL, bytesL])
  exact ⟨N, a, b, c, d, e⟩
theorem NumberOfWord_ev (s : ByteArray) (hsz : s.size ≤ 1000000) : ∃ N : Int, (letB s = true → 1 ≤ N ∧ N ≤ 2 ^ s.size ∧ bitL N s.size = bytesL s s.size) ∧ Ev (fun f => impl_NumberOfWord.f f s) (if letB s = true then (N, true) else (0, false)) ∧ Ev (fun f => spec_NumberOfWord.f f s) (if letB s = true then (N, true) else (0, false)) := by
  by_cases c : letB s = true
  · obtain ⟨N, h1, h2, h3, e1, e2⟩ := numberOf_ev s c
    refine ⟨N, fun _ => ⟨h1, h2, h3⟩, ?_⟩
    rw [if_pos c]
    exact ⟨Ev.pure_bind (isParity_f hsz) (Ev.pos c e1), Ev.bind1 (stLetters_ev s hsz) (Ev.pos c (Ev.bind1 e2 (Ev.now _)))⟩
  · refine ⟨0, fun h => absurd h c, ?_⟩
    rw [if_neg c]
    exact ⟨Ev.pure_bind (isParity_f hsz) (Ev.neg c (Ev.now _)), Ev.bind1 (stLetters_ev s hsz) (Ev.neg c (Ev.now _))⟩

/-! ### a sure number -/
theorem ten_pow {j : Nat} (h : j ≤ 11) : (0 : Int) < 10 ^ j ∧ (10 : Int) ^ j ≤ 100000000000 := by
  refine ⟨Int.pow_pos (by omega), ?_⟩
  have : ∀ i : Fin 12, (10 : Int) ^ i.val ≤ 100000000000 := by decide
  exact this ⟨j, by omega⟩
theorem sure_ev (l : List Int) (hl : Bytes l) (p s : Int) (hp : 0 ≤ p ∧ p ≤ 4611686018427386000) : ∃ v q t, Ev (fun k => spec_l1Cur_sureNumber.f k l p s) (v, q, t) ∧ p ≤ q ∧ q ≤ p + 100 ∧ 0 ≤ v ∧ v ≤ 1000000000000 := by
  have key : ∀ (d j : Nat) (x p s : Int), j + d ≤ 11 → 0 ≤ x → x < 10 ^ j → 0 ≤ p ∧ p ≤ 4611686018427386900 - 2 * d → ∃ v q t, Ev (fun k => spec_l1Cur_sureNumber.l0 k x (d : Int) l p s) (v, q, t) ∧ p ≤ q ∧ q ≤ p + 2 * d ∧ 0 ≤ v ∧ v ≤ 1000000000000 := by
    intro d
    induction d with
    | zero =>
      intro j x p s hj h0 h1 hp
      have := ten_pow (show j ≤ 11 by omega)
      exact ⟨x, p, s, Ev.step (fun k => by rw [spec_l1Cur_sureNumber.l0]) (Ev.neg (by omega) (Ev.now _)), by omega, by omega, h0, by omega⟩
    | succ d ih =>
      intro j x p s hj h0 h1 hp
      have := ten_pow (show j ≤ 11 by omega)
      have hps : (10 : Int) ^ (j + 1) = 10 ^ j * 10 := Int.pow_succ _ _
      obtain ⟨v, q, t, e, D⟩ := pick_ev l hl p s 10 (by omega)
      have hv0 := D.lo
      have hv1 := D.hi (by omega)
      have hq0 := D.from_
      have hq1 := D.to_
      have hw : wrap64 (wrap64 (x * 10) + v) = x * 10 + v := by rw [w64 (n := x * 10) (by omega) (by omega), w64 (by omega) (by omega)]
      have hw2 : wrap64 (((d + 1 : Nat) : Int) - 1) = (d : Int) := by rw [w64 (by omega) (by omega)]; omega
      obtain ⟨v2, q2, t2, e2, g0, g1, g2, g3⟩ := ih (j + 1) (x * 10 + v) q t (by omega) (by omega) (by omega) (by omega)
      refine ⟨v2, q2, t2, Ev.step (fun k => by rw [spec_l1Cur_sureNumber.l0]) (Ev.pos (by omega) (Ev.pure_bind e ?_)), by omega, by omega, g2, g3⟩
      simp only []
      rw [hw, hw2]
      exact e2
  obtain ⟨v, q, t, e, D⟩ := pick_ev l hl p s 8 (by omega)
  have hq0 := D.from_
  have hq1 := D.to_
  by_cases c0 : v = 0
  · obtain ⟨v2, q2, t2, e2, D2⟩ := pick_ev l hl q t 256 (by omega)
    have := D2.lo
    have := D2.hi (by omega)
    have := D2.from_
    have := D2.to_
    exact ⟨v2, q2, t2, Ev.pure_bind e (Ev.pos c0 (Ev.pure_bind e2 (Ev.now _))), by omega, by omega, by omega, by omega⟩
  by_cases c1 : v = 1
  · obtain ⟨v2, q2, t2, e2, hm, h1, h2⟩ := among_ev l hl q t (by omega) [0, 1, 9, 10, 99, 100, 153, 370, 1000, 6174, 9999, 999999999999, 1000000000000] (by decide)
    refine ⟨v2, q2, t2, Ev.pure_bind e (Ev.neg c0 (Ev.pos c1 (Ev.pure_bind e2 (Ev.now _)))), by omega, by omega, ?_, ?_⟩
    · simp at hm; omega
    · simp at hm; omega
  by_cases c2 : v = 2
  · obtain ⟨v2, q2, t2, e2, D2⟩ := pick_ev l hl q t 256 (by omega)
    have := D2.lo
    have h1 := D2.hi (by omega)
    have := D2.from_
    have := D2.to_
    obtain ⟨v3, q3, t3, e3, D3⟩ := pick_ev l hl q2 t2 256 (by omega)
    have h3 := D3.lo
    have := D3.hi (by omega)
    have := D3.from_
    have := D3.to_
    have hm : v2 * v3 ≤ 255 * 255 := by
      have a1 : v2 * v3 ≤ 255 * v3 := Int.mul_le_mul_of_nonneg_right (by omega) h3
      omega
    have hm0 : 0 ≤ v2 * v3 := Int.mul_nonneg (by omega) h3
    have hw : wrap64 (v2 * v3) = v2 * v3 := w64 (by omega) (by omega)
    refine ⟨v2 * v3, q3, t3, Ev.pure_bind e (Ev.neg c0 (Ev.neg c1 (Ev.pos c2 (Ev.pure_bind e2 (Ev.pure_bind e3 (Ev.some (by rw [hw]))))))), by omega, by omega, by omega, by omega⟩
  · obtain ⟨v2, q2, t2, e2, D2⟩ := pick_ev l hl q t 11 (by omega)
    have := D2.lo
    have := D2.hi (by omega)
    have := D2.from_
    have := D2.to_
    have hw : wrap64 (1 + v2) = (((1 + v2).toNat : Nat) : Int) := by rw [w64 (by omega) (by omega)]; omega
    obtain ⟨v3, q3, t3, e3, g0, g1, g2, g3⟩ := key (1 + v2).toNat 0 0 q2 t2 (by omega) (by omega) (by simp) (by omega)
    refine ⟨v3, q3, t3, Ev.pure_bind e (Ev.neg c0 (Ev.neg c1 (Ev.neg c2 (Ev.pure_bind e2 ?_)))), by omega, by omega, g2, g3⟩
    rw [hw]
    exact e3

/-! ### a spoilt text -/
theorem spoilt_ev (l : List Int) (hl : Bytes l) (p s : Int) (hp : 0 ≤ p ∧ p ≤ 4611686018427385000) (x w : ByteArray) (hx : x.size ≤ 1000) (hw : 0 < w.size ∧ w.size ≤ 100) : ∃ y q t, Ev (fun k => spec_l1Cur_spoilt.f k l p s x w) (y, q, t) ∧ y.size ≤ 2000 := by
  have key : ∀ (d : Nat) (x : ByteArray) (p s : Int), x.size + d ≤ 2000 → 0 ≤ p ∧ p ≤ 4611686018427386000 - 10 * d → ∃ y q t, Ev (fun k => spec_l1Cur_spoilt.l0 k x w (d : Int) l p s) (y, q, t) ∧ y.size ≤ 2000 := by
    intro d
    induction d with
    | zero =>
      intro x p s hx hp
      exact ⟨x, p, s, Ev.step (fun k => by rw [spec_l1Cur_spoilt.l0]) (Ev.neg (by omega) (Ev.step (fun k => by rw [spec_l1Cur_spoilt.j1]) (Ev.neg (by simp) (Ev.now _)))), by omega⟩
    | succ d ih =>
      intro x p s hx hp
      by_cases c : (x.size : Int) > 0
      · obtain ⟨i, q, t, e, D⟩ := pick_ev l hl p s (x.size : Int) (by omega)
        have i0 := D.lo
        have i1 : i < (x.size : Int) := by
          by_cases c1 : 1 < (x.size : Int)
          · exact D.hi c1
          · have := D.one (by omega); omega
        have := D.from_
        have := D.to_
        obtain ⟨j, q2, t2, e2, D2⟩ := pick_ev l hl q t (w.size : Int) (by omega)
        have j0 := D2.lo
        have j1 : j < (w.size : Int) := by
          by_cases c1 : 1 < (w.size : Int)
          · exact D2.hi c1
          · have := D2.one (by omega); omega
        have := D2.from_
        have := D2.to_
        obtain ⟨v, q3, t3, e3, D3⟩ := pick_ev l hl q2 t2 3 (by omega)
        have := D3.from_
        have := D3.to_
        have hs1 : (strOfNums [bt w j]).size = 1 := str_size _
        have hwi : wrap64 (i + 1) = i + 1 := w64 (by omega) (by omega)
        have hwd : wrap64 (((d + 1 : Nat) : Int) - 1) = (d : Int) := by rw [w64 (by omega) (by omega)]; omega
        have a1 := ext_size x 0 i.toNat
        have a2 := ext_size x i.toNat x.size
        have a3 := ext_size x (i + 1).toNat x.size
        have a4 := app_size (x.extract 0 i.toNat) (strOfNums [bt w j])
        have a5 := app_size (x.extract 0 i.toNat ++ strOfNums [bt w j]) (x.extract i.toNat x.size)
        have a6 := app_size (x.extract 0 i.toNat ++ strOfNums [bt w j]) (x.extract (i + 1).toNat x.size)
        have a7 := app_size (x.extract 0 i.toNat) (x.extract (i + 1).toNat x.size)
        have enter : ∀ (R : ByteArray × Int × Int) (G : Nat → Option (ByteArray × Int × Int)), (∀ k, spec_l1Cur_spoilt.j1 (k + 1) x w ((d + 1 : Nat) : Int) true l p s = G k) → Ev G R → Ev (fun k => spec_l1Cur_spoilt.l0 k x w ((d + 1 : Nat) : Int) l p s) R := by
          intro R G h hG
          refine Ev.step (fun k => by rw [spec_l1Cur_spoilt.l0]) (Ev.pos (by omega) ?_)
          rw [decide_eq_true c]
          exact Ev.step h hG
        by_cases c0 : v = 0
        · obtain ⟨y, q4, t4, e4, hy⟩ := ih ((x.extract 0 i.toNat ++ strOfNums [bt w j]) ++ x.extract i.toNat x.size) q3 t3 (by omega) (by omega)
          refine ⟨y, q4, t4, enter _ _ (fun k => by rw [spec_l1Cur_spoilt.j1, if_pos rfl]) (Ev.pure_bind e (Ev.pure_bind e2 (Ev.pos j0 (Ev.pos j1 ?_)))), hy⟩
          simp only [Option.bind_some]
          refine Ev.pure_bind e3 (Ev.pos c0 ?_)
          simp only [hwd]
          exact Ev.pos i0 (Ev.pos (by omega) (Ev.pos (by omega) (Ev.pos (by omega) e4)))
        by_cases c1 : v = 1
        · obtain ⟨y, q4, t4, e4, hy⟩ := ih ((x.extract 0 i.toNat ++ strOfNums [bt w j]) ++ x.extract (i + 1).toNat x.size) q3 t3 (by omega) (by omega)
          refine ⟨y, q4, t4, enter _ _ (fun k => by rw [spec_l1Cur_spoilt.j1, if_pos rfl]) (Ev.pure_bind e (Ev.pure_bind e2 (Ev.pos j0 (Ev.pos j1 ?_)))), hy⟩
          simp only [Option.bind_some]
          refine Ev.pure_bind e3 (Ev.neg c0 (Ev.pos c1 ?_))
          simp only [hwd, hwi]
          exact Ev.pos i0 (Ev.pos (by omega) (Ev.pos (by omega) (Ev.pos (by omega) (Ev.pos (by omega) (Ev.pos (by omega) e4)))))
        · obtain ⟨y, q4, t4, e4, hy⟩ := ih (x.extract 0 i.toNat ++ x.extract (i + 1).toNat x.size) q3 t3 (by omega) (by omega)
          refine ⟨y, q4, t4, enter _ _ (fun k => by rw [spec_l1Cur_spoilt.j1, if_pos rfl]) (Ev.pure_bind e (Ev.pure_bind e2 (Ev.pos j0 (Ev.pos j1 ?_)))), hy⟩
          simp only [Option.bind_some]
          refine Ev.pure_bind e3 (Ev.neg c0 (Ev.neg c1 ?_))
          simp only [hwd, hwi]
          exact Ev.pos i0 (Ev.pos (by omega) (Ev.pos (by omega) (Ev.pos (by omega) (Ev.pos (by omega) e4))))
      · refine ⟨x, p, s, Ev.step (fun k => by rw [spec_l1Cur_spoilt.l0]) (Ev.pos (by omega) ?_), by omega⟩
        rw [decide_eq_false c]
        exact Ev.step (fun k => by rw [spec_l1Cur_spoilt.j1]) (Ev.neg (by simp) (Ev.now _))
  obtain ⟨v, q, t, e, D⟩ := pick_ev l hl p s 2 (by omega)
  have := D.lo
  have := D.hi (by omega)
  have := D.from_
  have := D.to_
  have hw1 : wrap64 (1 + v) = (((1 + v).toNat : Nat) : Int) := by rw [w64 (by omega) (by omega)]; omega
  obtain ⟨y, q2, t2, e2, hy⟩ := key (1 + v).toNat x q t (by omega) (by omega)
  refine ⟨y, q2, t2, Ev.pure_bind e ?_, hy⟩
  rw [hw1]
  exact e2

/-! ### the draws of chapter 7 -/
theorem of_ev (l : List Int) (hl : Bytes l) (p s : Int) (hp : 0 ≤ p ∧ p ≤ 4611686018427387000) : ∃ v q t, spec_l1Cur_of.f l p s [⟨#[48]⟩, ⟨#[49]⟩] = some (v, q, t) ∧ v.size = 1 ∧ p ≤ q ∧ q ≤ p + 2 := by
  obtain ⟨v, q, t, e, D⟩ := pick_ev l hl p s 2 (by omega)
  have h0 := D.lo
  have h1 := D.hi (by omega)
  have h2 := D.from_
  have h3 := D.to_
  refine ⟨rdOf ByteArray.empty [⟨#[48]⟩, ⟨#[49]⟩] v, q, t, ?_, ?_, h2, h3⟩
  · unfold spec_l1Cur_of.f
    rw [show ((([⟨#[48]⟩, ⟨#[49]⟩] : List ByteArray).length : Nat) : Int) = 2 from rfl, e, Option.bind_some, if_pos h0, if_pos h1]
  · have : v = 0 ∨ v = 1 := by omega
    rcases this with rfl | rfl <;> rfl
theorem letters_ev (l : List Int) (hl : Bytes l) : ∃ w q t, Ev (fun k => spec_l1Cur_letters.f k l 0 0) (w, q, t) ∧ w.size ≤ 2000 := by
  have key : ∀ (d : Nat) (x : ByteArray) (p s : Int), x.size + d ≤ 100 → 0 ≤ p ∧ p ≤ 4611686018427384000 - 10 * d → ∃ w q t, Ev (fun k => spec_l1Cur_letters.l0 k x (d : Int) l p s) (w, q, t) ∧ w.size ≤ 2000 := by
    intro d
    induction d with
    | zero =>
      intro x p s hx hp
      obtain ⟨b, q, t, e, h1, h2⟩ := one_ev l hl p s 12 (by omega)
      cases b with
      | true =>
        have hsz := app_size x ⟨#[49]⟩
        have h49 : (⟨#[49]⟩ : ByteArray).size = 1 := rfl
        obtain ⟨y, q2, t2, e2, hy⟩ := spoilt_ev l hl q t (by omega) (x ++ ⟨#[49]⟩) ⟨#[48, 49, 50, 120]⟩ (by omega) (by decide)
        have hcap : x.size + 1 ≤ 9223372036854775807 := by omega
        exact ⟨y, q2, t2, Ev.step (fun k => by rw [spec_l1Cur_letters.l0]) (Ev.neg (by omega) (Ev.pure_bind e (Ev.pos rfl (Ev.pos hcap (Ev.bind1 e2 (Ev.now _)))))), hy⟩
      | false =>
        exact ⟨x, q, t, Ev.step (fun k => by rw [spec_l1Cur_letters.l0]) (Ev.neg (by omega) (Ev.pure_bind e (Ev.neg (show ¬ false = true by simp) (Ev.now _)))), by omega⟩
    | succ d ih =>
      intro x p s hx hp
      obtain ⟨v, q, t, e, hv, h1, h2⟩ := of_ev l hl p s (by omega)
      have hsz := app_size x v
      obtain ⟨w, q2, t2, e2, hw⟩ := ih (x ++ v) q t (by omega) (by omega)
      have hcap : x.size + v.size ≤ 9223372036854775807 := by omega
      refine ⟨w, q2, t2, Ev.step (fun k => by rw [spec_l1Cur_letters.l0]) (Ev.pos (by omega) (Ev.pure_bind e (Ev.pos hcap ?_))), hw⟩
      simp only []
      rw [show wrap64 (((d + 1 : Nat) : Int) - 1) = (d : Int) by rw [w64 (by omega) (by omega)]; omega]
      exact e2
  obtain ⟨v, q, t, e, hm, h1, h2⟩ := among_ev l hl 0 0 (by omega) [0, 1, 2, 4, 7, 12, 20, 21] (by decide)
  have hv : 0 ≤ v ∧ v ≤ 21 := by simp at hm; omega
  obtain ⟨w, q2, t2, e2, hw⟩ := key v.toNat ⟨#[]⟩ q t (by show 0 + _ ≤ _; omega) (by omega)
  rw [show ((v.toNat : Nat) : Int) = v by omega] at e2
  exact ⟨w, q2, t2, Ev.pure_bind e e2, hw⟩
theorem drawWord_ev (l : List Int) (hl : Bytes l) : ∃ w, Ev (fun k => spec_DrawNumberOfWord.f k l) w ∧ w.size ≤ 2000 := by
  obtain ⟨w, q, t, e, h⟩ := letters_ev l hl
  exact ⟨w, Ev.bind1 e (Ev.now _), h⟩
theorem stepped_ev (l : List Int) (hl : Bytes l) : ∃ n q t, Ev (fun k => spec_l1Cur_stepped.f k l 0 0) (n, q, t) ∧ 0 ≤ q ∧ q ≤ 1000 := by
  obtain ⟨b, q, t, e, h1, h2⟩ := one_ev l hl 0 0 16 (by omega)
  cases b with
  | true =>
    obtain ⟨v, q2, t2, e2, _, g1, g2⟩ := among_ev l hl q t (by omega) [0, -1, 1000000000000, 1000000000001, 4611686018427387904] (by decide)
    exact ⟨v, q2, t2, Ev.pure_bind e (Ev.pos rfl (Ev.pure_bind e2 (Ev.now _))), by omega, by omega⟩
  | false =>
    obtain ⟨v, q2, t2, e2, D⟩ := pick_ev l hl q t 200 (by omega)
    have := D.from_
    have := D.to_
    obtain ⟨v3, q3, t3, e3, D3⟩ := pick_ev l hl q2 t2 250 (by omega)
    have := D3.from_
    have := D3.to_
    obtain ⟨v4, q4, t4, e4, g1, g2, _, _⟩ := sure_ev l hl q3 t3 (by omega)
    obtain ⟨v5, q5, t5, e5, k1, k2, _, _⟩ := sure_ev l hl q4 t4 (by omega)
    have em : ∃ m, spec_l1Most.f 1 v5 = some m := by unfold spec_l1Most.f; split <;> exact ⟨_, rfl⟩
    obtain ⟨m, em⟩ := em
    obtain ⟨v6, q6, t6, e6, _, m1, m2⟩ := among_ev l hl q5 t5 (by omega) [1, 2, 3, 7, 27, 97, 703, 6171, wrap64 (1 + v), wrap64 (1 + v3), wrap64 (1 + (Int.tmod v4 1000000)), m] (by simp)
    exact ⟨v6, q6, t6, Ev.pure_bind e (Ev.neg (show ¬ false = true by simp) (Ev.pure_bind e2 (Ev.pure_bind e3 (Ev.bind1 e4 (Ev.bind1 e5 (Ev.pure_bind em (Ev.pure_bind e6 (Ev.now _)))))))), by omega, by omega⟩
theorem drawParity_ev (l : List Int) (hl : Bytes l) : ∃ n k, Ev (fun f => spec_DrawParityWord.f f l) (n, k) ∧ -1 ≤ k ∧ k ≤ 21 := by
  obtain ⟨n, q, t, e, h1, h2⟩ := stepped_ev l hl
  obtain ⟨v, q2, t2, e2, hm, _⟩ := among_ev l hl q t (by omega) [0, 1, 2, 4, 8, 12, 20, 21, -1] (by decide)
  exact ⟨n, v, Ev.bind1 e (Ev.pure_bind e2 (Ev.now _)), by simp at hm; omega, by simp at hm; omega⟩

theorem tt_ne : ¬ (true != true) = true := by simp
theorem ff_ne : ¬ (false != false) = true := by simp

/-! ### the law -/
theorem ShortStep_f (n : Int) : impl_ShortStep.f n = some (if placeB n = true ∧ sh n ≤ 1000000000000 then (sh n, true) else (0, false)) := by
  unfold impl_ShortStep.f impl_told.f
  rw [isPlace_b, Option.bind_some]
  by_cases c : placeB n = true
  · rw [if_pos c, (short_f ((placeB_iff n).1 c)).1, Option.bind_some]
    by_cases c2 : sh n > 1000000000000
    · rw [if_pos c2, if_neg (fun h => by omega)]; rfl
    · rw [if_neg c2, if_pos ⟨c, by omega⟩]; rfl
  · rw [if_neg c, if_neg (fun h => c h.1)]
theorem parTail_ev (l1 : List Int) (hl : Bytes l1) : Ev (fun f => laws_FnParityWords.j1 f l1) true := by
  obtain ⟨n, k, e, hk0, hk1⟩ := drawParity_ev l1 hl
  have a1 := ParityWord_ev n k (by omega)
  have a2 := sParityWord_ev n k
  have a3 := OddCount_ev n k (by omega)
  have a4 := sOddCount_ev n k
  have a5 := AfterShort_ev n k (by omega)
  have a6 := sAfterShort_ev n k
  refine Ev.step (fun f => by rw [laws_FnParityWords.j1]) (Ev.bind1 e (Ev.bind1 a1 (Ev.bind1 a2 (Ev.bind1 a3 (Ev.bind1 a4 (Ev.bind1 a5 (Ev.bind1 a6 ?_)))))))
  by_cases c : askP n k = true ∧ lowB n (k.toNat - 1) = true
  · obtain ⟨⟨n1, n2⟩, k0, k1⟩ := (askP_iff n k).1 c.1
    have hw : wordP n k = (strOfNums (bitL n k.toNat), true) := by unfold wordP; rw [if_pos c]
    have hc : cntP n k = ((od k.toNat n : Int), true) := by unfold cntP; rw [if_pos c]
    rw [hw, hc]
    have hkn : ((k.toNat : Nat) : Int) = k := by omega
    have hsz : (strOfNums (bitL n k.toNat)).size = k.toNat := by rw [str_size, bitL_length]
    have hbt : ∀ i < k.toNat, bt (strOfNums (bitL n k.toNat)) (i : Int) = 48 + it i n % 2 := fun i hi => by
      rw [bt_str (by rw [bitL_length]; omega) (bitL_byte n _ _ (List.getElem_mem _))]
      simp [bitL]
    obtain ⟨N, hN, b1, _⟩ := NumberOfWord_ev (strOfNums (bitL n k.toNat)) (by omega)
    have hL : letB (strOfNums (bitL n k.toNat)) = true := (letB_iff _).2 ⟨fun i hi => by rw [hbt i (by omega)]; omega, by omega⟩
    obtain ⟨N1, N2, hB⟩ := hN hL
    rw [if_pos hL] at b1
    rw [hsz] at N2 hB
    obtain ⟨p0, p1, _⟩ := pow32 (show k.toNat ≤ 20 by omega)
    have hBB : bitL n k.toNat = bitL N k.toNat := by
      rw [hB]
      apply List.ext_getElem
      · rw [bitL_length, bytesL_length]
      · intro i g1 g2
        rw [bitL_length] at g1
        simp only [bytesL, List.getElem_map, List.getElem_range]
        rw [hbt i g1]
        simp [bitL]
    obtain ⟨q, hq⟩ := same_word _ _ _ hBB
    have hshl : shl .i64 1 k = 2 ^ k.toNat := by
      have := shl_f (x := 1) (j := k.toNat) (by omega) (by omega) (by omega)
      rw [hkn, Int.one_mul] at this
      exact this
    have hmod : Int.tmod (wrap64 (n - N)) (shl .i64 1 k) = 0 := by
      rw [hshl, w64 (by omega) (by omega), show n - N = 2 ^ k.toNat * q by rw [Int.mul_comm]; omega]
      exact Int.mul_tmod_right _ _
    have hlow := low_it n2 c.2
    have loop : Ev (fun f => laws_FnParityWords.l1 f k (strOfNums (bitL n k.toNat)) (aftP n k).1 (aftP n k).2 n 0) true := by
      have key : ∀ (d i : Nat), i + d = k.toNat → it i n ≤ 1000000000000 → (i = k.toNat → lowB n k.toNat = true) → Ev (fun f => laws_FnParityWords.l1 f k (strOfNums (bitL n k.toNat)) (aftP n k).1 (aftP n k).2 (it i n) (i : Int)) true := by
        intro d
        induction d with
        | zero =>
          intro i hi hit hlast
          obtain rfl : i = k.toNat := by omega
          have ha : aftP n k = (it k.toNat n, true) := by unfold aftP; rw [if_pos ⟨c.1, hlast rfl⟩]
          rw [ha]
          refine Ev.step (fun f => by rw [laws_FnParityWords.l1]) (Ev.neg (by omega) (Ev.pos rfl (Ev.some ?_)))
          simp
        | succ d ih =>
          intro i hi hit hlast
          have hp := it_pos n1 i
          have hpl : placeB (it i n) = true := (placeB_iff _).2 ⟨hp, hit⟩
          refine Ev.step (fun f => by rw [laws_FnParityWords.l1]) (Ev.pos (by omega) (Ev.pos (by omega) (Ev.pos (by omega) ?_)))
          rw [hbt i (by omega), tm_eq (by omega)]
          have hpar : ¬ ((48 + it i n % 2 == 49) != (it i n % 2 == 1)) = true := by
            have : it i n % 2 = 0 ∨ it i n % 2 = 1 := by omega
            rcases this with h | h <;> rw [h] <;> decide
          refine Ev.neg hpar (Ev.pure_bind (ShortStep_f _) ?_)
          by_cases c2 : sh (it i n) ≤ 1000000000000
          · rw [if_pos ⟨hpl, c2⟩, w64_succ (by omega)]
            refine Ev.pos rfl (ih (i + 1) (by omega) c2 (fun h => ?_))
            refine (lowB_iff n _).2 (fun j hj => ?_)
            by_cases e : j = i
            · subst e; exact c2
            · exact hlow (j + 1) (by omega)
          · rw [if_neg (fun h => c2 h.2)]
            have hik : i = k.toNat - 1 := by
              apply Classical.byContradiction
              intro hne
              exact c2 (hlow (i + 1) (by omega))
            have ha : aftP n k = (0, false) := by
              unfold aftP
              rw [if_neg (fun h => c2 ((lowB_iff n _).1 h.2 i (by omega)))]
            rw [ha, w64 (n := k - 1) (by omega) (by omega)]
            exact Ev.neg (show ¬ false = true by simp) (Ev.pos (by omega) (Ev.now _))
      refine key k.toNat 0 (by omega) n2 (fun h => ?_)
      rw [← h]; rfl
    refine Ev.neg tt_ne (Ev.pos rfl (Ev.neg tt_ne (Ev.pos rfl (Ev.neg (by simp) (Ev.pos rfl (Ev.neg tt_ne (Ev.pos rfl (Ev.bind1 b1 (Ev.pos rfl (Ev.pos k0 ?_))))))))))
    exact Ev.neg (by rw [hshl]; omega) (Ev.pos hmod loop)
  · have hw : wordP n k = (⟨#[]⟩, false) := by unfold wordP; rw [if_neg c]
    have hc : cntP n k = (0, false) := by unfold cntP; rw [if_neg c]
    rw [hw, hc]
    exact Ev.neg ff_ne (Ev.pos rfl (Ev.neg ff_ne (Ev.pos rfl (Ev.neg (by simp) (Ev.pos rfl (Ev.neg ff_ne (Ev.neg (show ¬ false = true by simp) (Ev.now _))))))))
theorem parLoop_ev (s : ByteArray) (N q : Int) (l1 : List Int) (B1 : Bytes l1) (hs : s.size ≤ 20) (h1 : 1 ≤ N) (h2 : N ≤ 2 ^ s.size) (hB : bitL N s.size = bytesL s s.size) (hq : 1 ≤ q ∧ q ≤ 7) :
    Ev (fun f => laws_FnParityWords.l0 f l1 s N (s.size : Int) s true (od s.size N : Int) true (it s.size N) true q s true (it s.size N + q * 3 ^ od s.size N) true 1 0 0) true := by
  obtain ⟨p0, p1, p2, p3, p4⟩ := pow32 hs
  have hshl : shl .i64 1 (s.size : Int) = 2 ^ s.size := by
    have := shl_f (x := 1) (j := s.size) (by omega) (by omega) (by omega)
    rwa [Int.one_mul] at this
  have hbt : ∀ i < s.size, bt s (i : Int) = 48 + it i N % 2 := fun i hi => by
    have e1 : (bitL N s.size)[i]'(by rw [bitL_length]; exact hi) = 48 + it i N % 2 := by simp [bitL]
    have e2 : (bytesL s s.size)[i]'(by rw [bytesL_length]; exact hi) = bt s (i : Int) := by simp [bytesL]
    rw [← e2, ← e1]
    simp only [hB]
  have key : ∀ (d i : Nat), i + d = s.size → Ev (fun f => laws_FnParityWords.l0 f l1 s N (s.size : Int) s true (od s.size N : Int) true (it s.size N) true q s true (it s.size N + q * 3 ^ od s.size N) true (3 ^ od i N) (od i N : Int) (i : Int)) true := by
    intro d
    induction d with
    | zero =>
      intro i hi
      obtain rfl : i = s.size := by omega
      have hit := it_small h1 hs
      have hip := it_pos h1 s.size
      obtain ⟨_, _, _, o0, o1⟩ := pow32 (show od s.size N ≤ 20 by have := od_le N s.size; omega)
      have hm0 : 0 ≤ q * 3 ^ od s.size N := Int.mul_nonneg (by omega) (by omega)
      have hm1 : q * 3 ^ od s.size N ≤ 7 * 3486784401 := by
        have a1 : q * 3 ^ od s.size N ≤ 7 * 3 ^ od s.size N := Int.mul_le_mul_of_nonneg_right hq.2 (by omega)
        omega
      refine Ev.step (fun f => by rw [laws_FnParityWords.l0]) (Ev.neg (by omega) (Ev.neg (by omega) (Ev.pos (by omega) (Ev.neg (by rw [hshl]; omega) (Ev.pos rfl (Ev.pos rfl (Ev.pos rfl (Ev.pos rfl (Ev.pos rfl (Ev.pos rfl (Ev.pos rfl (Ev.pos rfl (Ev.pos ?_ (parTail_ev l1 B1))))))))))))))
      rw [w64 (n := q * 3 ^ od s.size N) (by omega) (by omega), w64 (by omega) (by omega)]
    | succ d ih =>
      intro i hi
      have ho := od_le N i
      obtain ⟨_, _, _, o0, o1⟩ := pow32 (show od i N ≤ 20 by omega)
      have hn := ih (i + 1) (by omega)
      refine Ev.step (fun f => by rw [laws_FnParityWords.l0]) (Ev.pos (by omega) (Ev.pos (by omega) (Ev.pos (by omega) ?_)))
      rw [hbt i (by omega), w64_succ (d := i) (by omega), w64_succ (d := od i N) (by omega), w64 (n := 3 ^ od i N * 3) (by omega) (by omega)]
      by_cases c : it i N % 2 = 0
      · have e : od (i + 1) N = od i N := by simp only [od]; rw [if_pos c]; omega
        rw [e] at hn
        exact Ev.neg (by omega) hn
      · have e : od (i + 1) N = od i N + 1 := by simp only [od]; rw [if_neg c]
        rw [e, Int.pow_succ] at hn
        exact Ev.pos (by omega) hn
  have := key s.size 0 (by omega)
  simpa [od] using this
theorem FnParityWords : laws_FnParityWords.Pure := by
  intro l0 l1 _ _ hw0 _ _ hw1
  have B0 := Bytes.of hw0
  have B1 := Bytes.of hw1
  by_cases c : (1048576 < (l0.length : Int) ∨ 1048576 < (l0.length : Int) + (l1.length : Int))
  · exact ⟨0, by unfold laws_FnParityWords.f; rw [big_f, decide_eq_true c]; rfl⟩
  refine Ev.rounds (r := true) ?_
  refine Ev.pure_bind (big_f l0 l1) (Ev.neg (by simpa using c) ?_)
  obtain ⟨s, e, hsz⟩ := drawWord_ev l0 B0
  obtain ⟨N, hN, a1, a2⟩ := NumberOfWord_ev s (by omega)
  by_cases cl : letB s = true
  · obtain ⟨h1, h2, hB⟩ := hN cl
    have h20 := ((letB_iff s).1 cl).2
    obtain ⟨p0, p1, p2, p3, p4⟩ := pow32 h20
    rw [if_pos cl] at a1 a2
    have hq : 1 ≤ 1 + (l1.length : Int) % 7 ∧ 1 + (l1.length : Int) % 7 ≤ 7 := by omega
    generalize hqq : 1 + (l1.length : Int) % 7 = q at *
    have hq2 : 0 ≤ q * 2 ^ s.size ∧ q * 2 ^ s.size ≤ 7 * 1048576 := by
      have a1 : q * 2 ^ s.size ≤ 7 * 2 ^ s.size := Int.mul_le_mul_of_nonneg_right hq.2 (by omega)
      exact ⟨Int.mul_nonneg (by omega) (by omega), by omega⟩
    have hM : wrap64 (N + shl .i64 q (s.size : Int)) = N + q * 2 ^ s.size := by rw [shl_f (by omega) hq2.1 (by omega), w64 (by omega) (by omega)]
    have hwhole : strOfNums (bitL N s.size) = s := by rw [hB]; exact whole_bytes s
    have word : ∀ x : Int, 1 ≤ x → x ≤ 8388608 → wordP x (s.size : Int) = (strOfNums (bitL x s.size), true) ∧ aftP x (s.size : Int) = (it s.size x, true) ∧ cntP x (s.size : Int) = ((od s.size x : Int), true) := by
      intro x x1 x2
      have ha : askP x (s.size : Int) = true := (askP_iff _ _).2 ⟨⟨x1, by omega⟩, by omega, by omega⟩
      have ht : ((s.size : Int)).toNat = s.size := by omega
      unfold wordP aftP cntP
      rw [ht, if_pos ⟨ha, low_small ⟨x1, x2⟩ (by omega)⟩, if_pos ⟨ha, low_small ⟨x1, x2⟩ (by omega)⟩, if_pos ⟨ha, low_small ⟨x1, x2⟩ (by omega)⟩]
      exact ⟨rfl, rfl, rfl⟩
    obtain ⟨w1, w2, w3⟩ := word N h1 (by omega)
    obtain ⟨w4, w5, _⟩ := word (N + q * 2 ^ s.size) (by omega) (by omega)
    have b1 := ParityWord_ev N (s.size : Int) (by omega)
    have b2 := OddCount_ev N (s.size : Int) (by omega)
    have b3 := AfterShort_ev N (s.size : Int) (by omega)
    have b4 := ParityWord_ev (N + q * 2 ^ s.size) (s.size : Int) (by omega)
    have b5 := AfterShort_ev (N + q * 2 ^ s.size) (s.size : Int) (by omega)
    rw [w1, hwhole] at b1
    rw [w3] at b2
    rw [w2] at b3
    rw [w4, bitL_add, hwhole] at b4
    have hit := (it_add N q s.size s.size (Nat.le_refl _)).1
    rw [Nat.sub_self, Int.pow_zero, Int.mul_one] at hit
    rw [w5, hit] at b5
    rw [← hM] at b4 b5
    refine Ev.bind1 e (Ev.bind1 a1 (Ev.bind1 a2 (Ev.neg tt_ne (Ev.pos rfl (Ev.pos rfl (Ev.bind1 b1 (Ev.bind1 b2 (Ev.bind1 b3 (Ev.bind1 b4 (Ev.bind1 b5 ?_))))))))))
    exact parLoop_ev s N q l1 B1 h20 h1 h2 hB hq
  · rw [if_neg cl] at a1 a2
    exact Ev.bind1 e (Ev.bind1 a1 (Ev.bind1 a2 (Ev.neg ff_ne (Ev.pos rfl (Ev.neg (show ¬ false = true by simp) (parTail_ev l1 B1))))))

end Go.Proofs.Ythamjbfdhghbbaa.Pure
