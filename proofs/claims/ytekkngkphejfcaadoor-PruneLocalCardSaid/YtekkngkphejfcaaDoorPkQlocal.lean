/- PruneLocal: cells that do not belong to the constraint do not matter, for every problem, every index and every two positions. -/
import Derived.Test.YtekkngkphejfcaaDoorPkF
set_option linter.all false
namespace Go.Proofs.YtekkngkphejfcaaDoor
open Go.RowKit
/-- A constraint that leaves each of its cells something. -/
structure OA (q : ProbD) (c : ConsD) (p : List Int) : Prop where
  nz : ∀ k, k < c.cells.length → setAt c p k ≠ 0
  ok : okC q c p
  left : ∀ k, k < c.cells.length → ∃ s, tb (setAt c p k) s = true ∧ ¬ lostC q c p k s
theorem countP_le {α : Type} {f g : α → Bool} : ∀ (l : List α), (∀ x ∈ l, f x = true → g x = true) → l.countP f ≤ l.countP g
  | [], _ => Nat.le_refl _
  | x :: l, h => by
    have h1 := countP_le l fun y hy => h y (List.mem_cons_of_mem _ hy)
    have h2 := h x List.mem_cons_self
    rw [List.countP_cons, List.countP_cons]
    cases hf : f x
    · simp only [Bool.false_eq_true, if_false]; omega
    · rw [h2 hf]; simp only [if_true]; omega
theorem countP_lt {α : Type} {f g : α → Bool} {a : α} (hf : f a = false) (hg : g a = true) : ∀ (l : List α), (∀ x ∈ l, f x = true → g x = true) → a ∈ l → l.countP f + 1 ≤ l.countP g
  | [], _, h => by cases h
  | x :: l, h, ha => by
    rw [List.countP_cons, List.countP_cons]
    rcases List.mem_cons.1 ha with rfl | ha
    · have h1 := countP_le l fun y hy => h y (List.mem_cons_of_mem _ hy)
      rw [hf, hg, if_pos rfl]
      simp only [Bool.false_eq_true, if_false]; omega
    · have h1 := countP_lt hf hg l (fun y hy => h y (List.mem_cons_of_mem _ hy)) ha
      have h2 := h x List.mem_cons_self
      cases hx : f x
      · simp only [Bool.false_eq_true, if_false]; omega
      · rw [h2 hx]; simp only [if_true]; omega
theorem cnt_mono {f g : Nat → Bool} {m : Nat} (h : ∀ a, a < m → f a = true → g a = true) : cnt f m ≤ cnt g m := by
  unfold cnt
  have := countP_le (f := f) (g := g) (List.range m) fun x hx => h x (List.mem_range.1 hx)
  omega
theorem cnt_strict {f g : Nat → Bool} {m a : Nat} (h : ∀ a, a < m → f a = true → g a = true) (ha : a < m) (hf : f a = false) (hg : g a = true) : cnt f m + 1 ≤ cnt g m := by
  unfold cnt
  have := countP_lt hf hg (List.range m) (fun x hx => h x (List.mem_range.1 hx)) (List.mem_range.2 ha)
  omega
theorem single_uniq {k : Nat} {x : Int} (hx : Sm k x) (hk : k ≤ 16) (h : single x = true) {s t : Nat} (hs : tb x s = true) (ht : tb x t = true) : s = t := by
  have h62 := pow_le62 (k := k) (Nat.le_trans hk (by decide))
  obtain ⟨m, rfl⟩ := Int.eq_ofNat_of_zero_le hx.1
  have hlt : m < 18446744073709551616 := by have := hx.2; omega
  have lo : ∀ {u : Nat}, tb (m : Int) u = true → u < 64 := fun {u} hu => Nat.lt_of_not_le fun h => by rw [tb_ge h] at hu; cases hu
  have h0 : m ≠ 0 := by
    rintro rfl
    exact tb0 hs
  have e : m &&& (m - 1) = 0 := by
    unfold single at h
    rw [beq_iff_eq] at h
    apply Nat.eq_of_testBit_eq
    intro u
    rw [Nat.zero_testBit, Nat.testBit_and]
    rcases Nat.lt_or_ge u 64 with hu | hu
    · have h2 := (tb_eq_zero (bits_in .and _ _)).1 h u hu
      have e1 : (m : Int) - 1 = ((m - 1 : Nat) : Int) := by omega
      rw [tb_and, e1, tb_nat _ _ hu, tb_nat _ _ hu] at h2
      exact h2
    · rw [Nat.testBit_lt_two_pow (Nat.lt_of_lt_of_le hlt (Nat.pow_le_pow_right (n := 2) (by decide) hu)), Bool.false_and]
  have S := symsOf_step m hlt h0
  rw [e, symsOf_zero] at S
  have mem : ∀ {u : Nat}, tb (m : Int) u = true → u ∈ symsOf m := fun {u} hu => by
    unfold symsOf
    rw [List.mem_filter, List.mem_range]
    exact ⟨lo hu, by rw [← tb_nat m u (lo hu)]; exact hu⟩
  have h1 := mem hs
  have h2 := mem ht
  rw [S, List.mem_singleton] at h1 h2
  rw [h1, h2]
section
variable {q : ProbD} {i : Int} {p p' : List Int}
theorem in_set {c : ConsD} {x : Int} (h : bits .andNot .i64 x c.set = 0) {s : Nat} (hs : tb x s = true) : tb c.set s = true := by
  have h64 : s < 64 := Nat.lt_of_not_le fun h => by rw [tb_ge h] at hs; cases hs
  have := (tb_eq_zero (bits_in .andNot _ _)).1 h s h64
  rw [tb_andNot, hs, Bool.true_and, Bool.not_eq_false'] at this
  exact this
theorem andNot_mono {c : ConsD} {x x' : Int} (h : ∀ s, tb x' s = true → tb x s = true) (hx : bits .andNot .i64 x c.set = 0) : bits .andNot .i64 x' c.set = 0 :=
  (tb_eq_zero (bits_in .andNot _ _)).2 fun s hs => by
    rw [tb_andNot]
    cases h1 : tb x' s with
    | false => rfl
    | true => rw [in_set hx (h s h1)]; rfl
theorem and_mono {c : ConsD} {x x' : Int} (h : ∀ s, tb x' s = true → tb x s = true) (hx : bits .and .i64 x' c.set ≠ 0) : bits .and .i64 x c.set ≠ 0 := by
  obtain ⟨s, hs, h1⟩ := (tb_ne_zero (bits_in .and _ _)).1 hx
  rw [tb_and, Bool.and_eq_true] at h1
  exact (tb_ne_zero (bits_in .and _ _)).2 ⟨s, hs, by rw [tb_and, h s h1.1, h1.2]; rfl⟩
theorem and_of {c : ConsD} {x : Int} {s : Nat} (h1 : tb x s = true) (h2 : tb c.set s = true) : bits .and .i64 x c.set ≠ 0 := by
  have h64 : s < 64 := Nat.lt_of_not_le fun h => by rw [tb_ge h] at h1; cases h1
  exact (tb_ne_zero (bits_in .and _ _)).2 ⟨s, h64, by rw [tb_and, h1, h2]; rfl⟩
theorem andNot_of {c : ConsD} {x : Int} {s : Nat} (h1 : tb x s = true) (h2 : tb c.set s = false) : bits .andNot .i64 x c.set ≠ 0 := by
  have h64 : s < 64 := Nat.lt_of_not_le fun h => by rw [tb_ge h] at h1; cases h1
  exact (tb_ne_zero (bits_in .andNot _ _)).2 ⟨s, h64, by rw [tb_andNot, h1, h2]; rfl⟩
/-- The sets of the constraint's cells are within those of another position. -/
def Sub (c : ConsD) (p' p : List Int) : Prop := ∀ k, k < c.cells.length → ∀ s, tb (setAt c p' k) s = true → tb (setAt c p k) s = true
theorem diff_mono {c : ConsD} {k : Nat} (W : Work c k p) (hS : Sub c p' p) (hin : ∀ a, a < c.cells.length → In64 (setAt c p' a)) (hnz : ∀ a, a < c.cells.length → setAt c p' a ≠ 0) {a s : Nat} (h : diffD c p a s) : diffD c p' a s := by
  obtain ⟨b, hb, hne, h1, h2⟩ := h
  have hx := W.at hb
  have e : setAt c p' b = setAt c p b := by
    refine tb_ext (hin b hb) (hx.in64 (by have := W.k; omega)) fun t _ => ?_
    obtain ⟨u, _, hu⟩ := (tb_ne_zero (hin b hb)).1 (hnz b hb)
    have hus : u = s := single_uniq hx W.k h1 (hS b hb u hu) h2
    subst hus
    cases ht : tb (setAt c p b) t with
    | true =>
      have : t = u := single_uniq hx W.k h1 ht h2
      subst this
      exact hu
    | false =>
      cases ht' : tb (setAt c p' b) t with
      | false => rfl
      | true => rw [hS b hb t ht'] at ht; cases ht
  refine ⟨b, hb, hne, ?_, ?_⟩
  · rw [e]; exact h1
  · rw [e]; exact h2
theorem must_mono {c : ConsD} (hS : Sub c p' p) {a : Nat} (ha : a < c.cells.length) (h : must c p a = true) : must c p' a = true := by
  unfold must at h ⊢
  rw [beq_iff_eq] at h ⊢
  exact andNot_mono (hS a ha) h
theorem may_mono {c : ConsD} (hS : Sub c p' p) (hin : ∀ a, a < c.cells.length → In64 (setAt c p' a)) (hnz : ∀ a, a < c.cells.length → setAt c p' a ≠ 0) {a : Nat} (ha : a < c.cells.length) (h : may c p' a = true) : may c p a = true := by
  unfold may at h ⊢
  rw [Bool.or_eq_true, bne_iff_ne] at h ⊢
  right
  rcases h with h | h
  · unfold must at h
    rw [beq_iff_eq] at h
    obtain ⟨u, _, hu⟩ := (tb_ne_zero (hin a ha)).1 (hnz a ha)
    exact and_of (hS a ha u hu) (in_set h hu)
  · exact and_mono (hS a ha) h
theorem count_mono {c : ConsD} (hS : Sub c p' p) (hin : ∀ a, a < c.cells.length → In64 (setAt c p' a)) (hnz : ∀ a, a < c.cells.length → setAt c p' a ≠ 0) (hok : countOk c p' = true) :
    countOk c p = true ∧ ∀ a s, a < c.cells.length → tb (setAt c p' a) s = true → countX c p a s = true → countX c p' a s = true := by
  have m1 := cnt_mono (f := must c p) (g := must c p') (m := c.cells.length) fun a ha => must_mono hS ha
  have m2 := cnt_mono (f := may c p') (g := may c p) (m := c.cells.length) fun a ha => may_mono hS hin hnz ha
  unfold countOk at hok ⊢
  rw [Bool.and_eq_true, Bool.not_eq_true', Bool.not_eq_true', decide_eq_false_iff_not, decide_eq_false_iff_not] at hok ⊢
  refine ⟨⟨by omega, by omega⟩, fun a s ha hs h => ?_⟩
  unfold countX at h ⊢
  rw [Bool.or_eq_true, Bool.and_eq_true, Bool.and_eq_true, Bool.and_eq_true, Bool.and_eq_true, beq_iff_eq, beq_iff_eq, bne_iff_ne, bne_iff_ne, Bool.not_eq_true'] at h ⊢
  rcases h with ⟨⟨h1, h2⟩, h3⟩ | ⟨⟨h1, h2⟩, h3⟩
  · refine .inl ⟨⟨by omega, fun h4 => ?_⟩, h3⟩
    have := cnt_strict (f := must c p) (g := must c p') (m := c.cells.length) (a := a) (fun a ha => must_mono hS ha) ha (by unfold must; exact beq_eq_false_iff_ne.2 h2) (by unfold must; exact beq_iff_eq.2 h4)
    omega
  · refine .inr ⟨⟨by omega, fun h4 => ?_⟩, h3⟩
    have := cnt_strict (f := may c p') (g := may c p) (m := c.cells.length) (a := a) (fun a ha => may_mono hS hin hnz ha) ha
      (by
        unfold may must
        rw [Bool.or_eq_false_iff, beq_eq_false_iff_ne, bne_eq_false_iff_eq]
        exact ⟨andNot_of hs h3, h4⟩) (by unfold may; rw [Bool.or_eq_true, bne_iff_ne]; exact .inr h2)
    omega
/-- Sums over cells. -/
theorem tot_mono {f g : Nat → Int} : ∀ {m : Nat}, (∀ a, a < m → f a ≤ g a) → tot f m ≤ tot g m ∧ ∀ a, a < m → tot f m - f a ≤ tot g m - g a
  | 0, _ => ⟨Int.le_refl _, fun a ha => absurd ha (Nat.not_lt_zero a)⟩
  | m + 1, h => by
    obtain ⟨h1, h2⟩ := tot_mono (m := m) fun a ha => h a (by omega)
    have hm := h m (by omega)
    have e : ∀ f : Nat → Int, tot f (m + 1) = tot f m + f m := fun f => rfl
    rw [e, e]
    refine ⟨by omega, fun a ha => ?_⟩
    rcases Nat.lt_succ_iff_lt_or_eq.1 ha with ha | rfl
    · have := h2 a ha; omega
    · omega
theorem lo_ge {n : Int} : ∀ (l : List Int) (a : Int), n ≤ l.foldl (loF q) a ↔ n ≤ a ∧ ∀ e ∈ l, n ≤ q.values.getD e.toNat 0
  | [], a => by simp
  | e :: l, a => by
    rw [List.foldl_cons, lo_ge l]
    unfold loF
    simp only [List.mem_cons, forall_eq_or_imp]
    split <;> constructor <;> rintro ⟨h1, h2⟩
    · exact ⟨by omega, h1, h2⟩
    · exact ⟨h2.1, h2.2⟩
    · exact ⟨h1, by omega, h2⟩
    · exact ⟨h1, h2.2⟩
theorem hi_le {n : Int} : ∀ (l : List Int) (a : Int), l.foldl (hiF q) a ≤ n ↔ a ≤ n ∧ ∀ e ∈ l, q.values.getD e.toNat 0 ≤ n
  | [], a => by simp
  | e :: l, a => by
    rw [List.foldl_cons, hi_le l]
    unfold hiF
    simp only [List.mem_cons, forall_eq_or_imp]
    split <;> constructor <;> rintro ⟨h1, h2⟩
    · exact ⟨by omega, h1, h2⟩
    · exact ⟨h2.1, h2.2⟩
    · exact ⟨h1, by omega, h2⟩
    · exact ⟨h1, h2.2⟩
theorem syms_sub {k : Nat} (hk : k ≤ 16) {x x' : Int} (hx : Sm k x) (hx' : Sm k x') (h : ∀ s, tb x' s = true → tb x s = true) : ∀ e ∈ symsI x', e ∈ symsI x := fun e he => by
  obtain ⟨s, rfl, h1, h2⟩ := (mem_symsI hx' (Nat.le_trans hk (by decide))).1 he
  exact (mem_symsI hx (Nat.le_trans hk (by decide))).2 ⟨s, rfl, h1, h s h2⟩
theorem sum_mono {c : ConsD} {k : Nat} (W : Work c k p) (W' : Work c k p') (hS : Sub c p' p) (hok : sumOk q c p' = true) :
    sumOk q c p = true ∧ ∀ a s, a < c.cells.length → sumX q c p a s = true → sumX q c p' a s = true := by
  have sub : ∀ a, a < c.cells.length → ∀ e ∈ symsI (setAt c p' a), e ∈ symsI (setAt c p a) := fun a ha => syms_sub W.k (W.at ha) (W'.at ha) (hS a ha)
  have l1 : ∀ a, a < c.cells.length → loV q (setAt c p a) ≤ loV q (setAt c p' a) := fun a ha => by
    have h := (lo_ge (q := q) (symsI (setAt c p a)) 100).1 (Int.le_refl _)
    exact (lo_ge (symsI (setAt c p' a)) 100).2 ⟨h.1, fun e he => h.2 e (sub a ha e he)⟩
  have l2 : ∀ a, a < c.cells.length → hiV q (setAt c p' a) ≤ hiV q (setAt c p a) := fun a ha => by
    have h := (hi_le (q := q) (symsI (setAt c p a)) (-1)).1 (Int.le_refl _)
    exact (hi_le (symsI (setAt c p' a)) (-1)).2 ⟨h.1, fun e he => h.2 e (sub a ha e he)⟩
  have t1 := tot_mono (f := fun a => loV q (setAt c p a)) (g := fun a => loV q (setAt c p' a)) (m := c.cells.length) l1
  have t2 := tot_mono (f := fun a => hiV q (setAt c p' a)) (g := fun a => hiV q (setAt c p a)) (m := c.cells.length) l2
  have e1 : ∀ p, lowOf q c p = tot (fun a => loV q (setAt c p a)) c.cells.length := fun _ => rfl
  have e2 : ∀ p, highOf q c p = tot (fun a => hiV q (setAt c p a)) c.cells.length := fun _ => rfl
  unfold sumOk at hok ⊢
  rw [Bool.and_eq_true, Bool.not_eq_true', Bool.not_eq_true', decide_eq_false_iff_not, decide_eq_false_iff_not, e1, e2] at hok ⊢
  refine ⟨⟨by omega, by omega⟩, fun a s ha h => ?_⟩
  unfold sumX at h ⊢
  rw [Bool.or_eq_true, decide_eq_true_iff, decide_eq_true_iff, e1, e2] at h ⊢
  have h1 := t1.2 a ha
  have h2 := t2.2 a ha
  rcases h with h | h
  · exact .inl (by omega)
  · exact .inr (by omega)
theorem up_ge {n b : Int} : ∀ (l : List Int) (a : Int), n ≤ l.foldl (upF q b) a ↔ n ≤ a ∧ ∀ e ∈ l, q.values.getD e.toNat 0 > b → n ≤ q.values.getD e.toNat 0
  | [], a => by simp
  | e :: l, a => by
    rw [List.foldl_cons, up_ge l]
    unfold upF
    simp only [List.mem_cons, forall_eq_or_imp]
    split
    · split <;> constructor <;> rintro ⟨h1, h2⟩
      · exact ⟨by omega, fun _ => h1, h2⟩
      · exact ⟨h2.1 (by assumption), h2.2⟩
      · exact ⟨h1, fun _ => by omega, h2⟩
      · exact ⟨h1, h2.2⟩
    · constructor <;> rintro ⟨h1, h2⟩
      · exact ⟨h1, fun h => absurd h (by assumption), h2⟩
      · exact ⟨h1, h2.2⟩
theorem dn_le {n b : Int} : ∀ (l : List Int) (a : Int), l.foldl (dnF q b) a ≤ n ↔ a ≤ n ∧ ∀ e ∈ l, q.values.getD e.toNat 0 < b → q.values.getD e.toNat 0 ≤ n
  | [], a => by simp
  | e :: l, a => by
    rw [List.foldl_cons, dn_le l]
    unfold dnF
    simp only [List.mem_cons, forall_eq_or_imp]
    split
    · split <;> constructor <;> rintro ⟨h1, h2⟩
      · exact ⟨by omega, fun _ => h1, h2⟩
      · exact ⟨h2.1 (by assumption), h2.2⟩
      · exact ⟨h1, fun _ => by omega, h2⟩
      · exact ⟨h1, h2.2⟩
    · constructor <;> rintro ⟨h1, h2⟩
      · exact ⟨h1, fun h => absurd h (by assumption), h2⟩
      · exact ⟨h1, h2.2⟩
theorem bef_mono {c : ConsD} {k : Nat} (W : Work c k p) (W' : Work c k p') (hS : Sub c p' p) : ∀ a, a ≤ c.cells.length → bef q c p a ≤ bef q c p' a
  | 0, _ => Int.le_refl _
  | a + 1, ha => by
    have ih := bef_mono W W' hS a (by omega)
    have h := (up_ge (q := q) (b := bef q c p a) (symsI (setAt c p a)) 100).1 (Int.le_refl _)
    exact (up_ge (symsI (setAt c p' a)) 100).2 ⟨h.1, fun e he hg => h.2 e (syms_sub W.k (W.at (by omega)) (W'.at (by omega)) (hS a (by omega)) e he) (by omega)⟩
theorem aftR_mono {c : ConsD} {k : Nat} (W : Work c k p) (W' : Work c k p') (hS : Sub c p' p) : ∀ m, m ≤ c.cells.length → aftR q c p' m ≤ aftR q c p m
  | 0, _ => Int.le_refl _
  | m + 1, hm => by
    have ih := aftR_mono W W' hS m (by omega)
    have h := (dn_le (q := q) (b := aftR q c p m) (symsI (setAt c p (c.cells.length - 1 - m))) (-1)).1 (Int.le_refl _)
    exact (dn_le (symsI (setAt c p' (c.cells.length - 1 - m))) (-1)).2 ⟨h.1, fun e he hg => h.2 e (syms_sub W.k (W.at (by omega)) (W'.at (by omega)) (hS _ (by omega)) e he) (by omega)⟩
theorem rise_mono {c : ConsD} {k : Nat} (W : Work c k p) (W' : Work c k p') (hS : Sub c p' p) {a s : Nat} (ha : a < c.cells.length) (h : riseX q c p a s = true) : riseX q c p' a s = true := by
  have h1 := bef_mono (q := q) W W' hS a (by omega)
  have h2 := aftR_mono (q := q) W W' hS (c.cells.length - (a + 1)) (by omega)
  unfold riseX aft at h ⊢
  rw [Bool.or_eq_true, decide_eq_true_iff, decide_eq_true_iff] at h ⊢
  rcases h with h | h
  · exact .inl (by omega)
  · exact .inr (by omega)
theorem kd_mono {c : ConsD} (hS : Sub c p' p) {a : Nat} (ha : a < c.cells.length) {inn : Bool} (h : kd c p' a inn = true) : kd c p a inn = true := by
  unfold kd at h ⊢
  cases inn
  · rw [cond_false, bne_iff_ne] at h ⊢
    exact fun h2 => h (andNot_mono (hS a ha) h2)
  · rw [cond_true, bne_iff_ne] at h ⊢
    exact and_mono (hS a ha) h
theorem rch_mono {c : ConsD} (hS : Sub c p' p) : ∀ (a : Nat), a ≤ c.cells.length → ∀ t, Rch c p' a t → Rch c p a t
  | 0, _, t, h => h
  | a + 1, ha, t, ⟨s, inn, h1, h2, h3⟩ => ⟨s, inn, rch_mono hS a (by omega) s h1, h2, kd_mono hS (by omega) h3⟩
theorem liv_mono {c : ConsD} (hS : Sub c p' p) : ∀ (m : Nat), m ≤ c.cells.length → ∀ t, Liv c p' m t → Liv c p m t
  | 0, _, t, h => h
  | m + 1, hm, t, ⟨h1, u, inn, h2, h3, h4⟩ => ⟨rch_mono hS _ (by omega) t h1, u, inn, h2, kd_mono hS (by omega) h3, liv_mono hS m (by omega) u h4⟩
theorem can_mono {c : ConsD} (hS : Sub c p' p) {a : Nat} (ha : a < c.cells.length) {inn : Bool} (h : can c p' a inn) : can c p a inn := by
  obtain ⟨s, t, h1, h2, h3, h4⟩ := h
  exact ⟨s, t, rch_mono hS a (by omega) s h1, h2, kd_mono hS ha h3, liv_mono hS _ (by omega) t h4⟩
theorem runs_mono {c : ConsD} (hS : Sub c p' p) {a s : Nat} (ha : a < c.cells.length) (h : runsD c p a s) : runsD c p' a s :=
  h.elim (fun h => .inl ⟨fun h2 => h.1 (can_mono hS ha h2), h.2⟩) fun h => .inr ⟨fun h2 => h.1 (can_mono hS ha h2), h.2⟩
theorem pair_mono {ok : Nat → Nat → Bool} {c : ConsD} (hS : Sub c p' p) (h2 : c.cells.length = 2) {a s : Nat} (h : pairD ok c p a s) : pairD ok c p' a s := by
  unfold pairD at h ⊢
  split
  · rename_i h0
    rw [if_pos h0] at h
    exact fun ⟨t, h3, h4⟩ => h ⟨t, hS 1 (by omega) t h3, h4⟩
  · rename_i h0
    rw [if_neg h0] at h
    exact fun ⟨t, h3, h4⟩ => h ⟨t, hS 0 (by omega) t h3, h4⟩
/-- All cells. -/
structure SubAll (c : ConsD) (q : ProbD) (p p' : List Int) : Prop where
  W : WorkAll c q p
  W' : WorkAll c q p'
  len : p.length = p'.length
  sub : ∀ j, j < p.length → ∀ s, tb (p'.getD j 0) s = true → tb (p.getD j 0) s = true
section
variable {c : ConsD}
theorem SubAll.pB (H : SubAll c q p p') : ∀ v : Int, (pB c p').getD v.toNat false = true → (pB c p).getD v.toNat false = true := fun v h => by
  have hl := H.len
  by_cases hv : v.toNat < p.length
  · rw [pB_at (by omega), bne_iff_ne] at h
    rw [pB_at hv, bne_iff_ne]
    exact and_mono (H.sub _ hv) h
  · rw [List.getD_eq_getElem?_getD, List.getElem?_eq_none (by rw [pB_len]; omega)] at h
    cases h
theorem SubAll.cB (H : SubAll c q p p') : ∀ v : Int, (cB c p).getD v.toNat false = true → (cB c p').getD v.toNat false = true := fun v h => by
  have hl := H.len
  by_cases hv : v.toNat < p.length
  · rw [cB_at hv, beq_iff_eq] at h
    rw [cB_at (by omega), beq_iff_eq]
    exact andNot_mono (H.sub _ hv) h
  · rw [List.getD_eq_getElem?_getD, List.getElem?_eq_none (by rw [cB_len]; omega)] at h
    cases h
theorem pB_of {x : List Int} {j s : Nat} (hj : j < x.length) (h1 : tb (x.getD j 0) s = true) (h2 : tb c.set s = true) : (pB c x).getD j false = true := by
  rw [pB_at hj, bne_iff_ne]
  exact and_of h1 h2
theorem set_of_cB {x : List Int} {j s : Nat} (hj : j < x.length) (h : (cB c x).getD j false = true) (h1 : tb (x.getD j 0) s = true) : tb c.set s = true := by
  rw [cB_at hj, beq_iff_eq] at h
  exact in_set h h1
/-- Where something is left everywhere, all that must be in the set is connected with its first. -/
theorem keep (W : WorkAll c q p') (hleft : ∀ v, v < p'.length → ∃ s, tb (p'.getD v 0) s = true ∧ ¬ farD c q p' v s) {r : Int} (h0 : 0 ≤ r) (hF : Fst (cB c p') r) {v : Int} (hv0 : 0 ≤ v) (hv1 : v < (p'.length : Int)) (hc : (cB c p').getD v.toNat false = true) : Rc q.nbrs (pB c p') r v := by
  refine Classical.byContradiction fun h => ?_
  obtain ⟨s, h1, h2⟩ := hleft v.toNat (by omega)
  have e : ((v.toNat : Nat) : Int) = v := by omega
  exact h2 ⟨W.cp (by omega) hc, set_of_cB (by omega) hc h1, r, h0, hF, by rw [e]; exact h⟩
theorem Fst.ex (W : WorkAll c q p') {v : Int} (hv0 : 0 ≤ v) (hv1 : v < (p'.length : Int)) (hc : (cB c p').getD v.toNat false = true) : ∃ r : Int, 0 ≤ r ∧ r < (p'.length : Int) ∧ Fst (cB c p') r ∧ (cB c p').getD r.toNat false = true := by
  obtain ⟨r, _, hF⟩ := indexB_ev (l := cB c p') (by rw [cB_len]; exact W.l1)
  rcases hF with ⟨h1, h2⟩ | ⟨h1, h2, h3, h4⟩
  · rw [h2 v.toNat (by rw [cB_len]; omega)] at hc; cases hc
  · rw [cB_len] at h2
    exact ⟨r, h1, h2, .inr ⟨h1, by rw [cB_len]; exact h2, h3, h4⟩, h3⟩
theorem Fst.at {r : Int} (h0 : 0 ≤ r) (h : Fst (cB c p) r) : r < (p.length : Int) ∧ (cB c p).getD r.toNat false = true := by
  rcases h with ⟨h1, _⟩ | ⟨_, h1, h2, _⟩
  · omega
  · rw [cB_len] at h1; exact ⟨h1, h2⟩
theorem far_mono (H : SubAll c q p p') (hleft : ∀ v, v < p'.length → ∃ s, tb (p'.getD v 0) s = true ∧ ¬ farD c q p' v s) {a s : Nat} (ha : a < p.length) (hs : tb (p'.getD a 0) s = true) (h : farD c q p a s) : farD c q p' a s := by
  obtain ⟨h1, h2, r, hr0, hF, h3⟩ := h
  have hl := H.len
  have gl := H.W'.gl
  obtain ⟨hr1, hrc⟩ := hF.at hr0
  have hrc' := H.cB r hrc
  obtain ⟨r', h4, h5, hF', h6⟩ := Fst.ex H.W' hr0 (by omega) hrc'
  refine ⟨pB_of (by omega) hs h2, h2, r', h4, hF', fun h7 => h3 ?_⟩
  have h8 := keep H.W' hleft h4 hF' hr0 (by omega) hrc'
  have h9 := h8.symm H.W'.g.gr h4 (by omega) (H.W'.cp (by omega) h6)
  exact (h9.trans h7).mono H.pB
theorem avoid {g : List (List Int)} {inn : List Bool} {u a v : Int} (hna : ¬ Rc g inn u a) (ha : 0 ≤ a) (G : Gr g) (hu0 : 0 ≤ u) (hu1 : u < (g.length : Int)) (h : Rc g inn u v) : Rc g (inn.set a.toNat false) u v := by
  induction h with
  | start => exact .start
  | @step x y h hb hi ih =>
    refine .step ih hb ?_
    have hr := (Rc.step h hb hi).rng G hu0 hu1
    have hne : a.toNat ≠ y.toNat := fun e => hna (by
      have e2 : a = y := by omega
      rw [e2]; exact Rc.step h hb hi)
    rw [List.getD_eq_getElem?_getD, List.getElem?_set_ne hne, ← List.getD_eq_getElem?_getD]
    exact hi
theorem conn_mono (H : SubAll c q p p') (hleft : ∀ v, v < p'.length → ∃ s, tb (p'.getD v 0) s = true ∧ ¬ connD c q p' v s) {a s : Nat} (ha : a < p.length) (hs : tb (p'.getD a 0) s = true) (h : connD c q p a s) : connD c q p' a s := by
  have hl := H.len
  have gl := H.W'.gl
  have gl1 := H.W.gl
  have hleft' : ∀ v, v < p'.length → ∃ s, tb (p'.getD v 0) s = true ∧ ¬ farD c q p' v s := fun v hv => by
    obtain ⟨t, h1, h2⟩ := hleft v hv
    exact ⟨t, h1, fun h => h2 (.inl h)⟩
  rcases h with h | ⟨h1, h2, ⟨u, v, hua, hva, hu, hv, h3, h4, h5⟩, h6⟩
  · exact .inl (far_mono H hleft' ha hs h)
  · have hur := h3.rng H.W.g.gr (by omega) (by omega)
    have hvr := h4.rng H.W.g.gr (by omega) (by omega)
    have hu' := H.cB u hu
    have hv' := H.cB v hv
    have pu := H.W'.cp (j := u.toNat) (by omega) hu'
    obtain ⟨r', h7, h8, hF', h9⟩ := Fst.ex H.W' hur.1 (by omega) hu'
    have ku := keep H.W' hleft' h7 hF' hur.1 (by omega) hu'
    have kv := keep H.W' hleft' h7 hF' hvr.1 (by omega) hv'
    have uv : Rc q.nbrs (pB c p') u v := (ku.symm H.W'.g.gr h7 (by omega) (H.W'.cp (by omega) h9)).trans kv
    have mset : ∀ w : Int, ((pB c p').set (a : Int).toNat false).getD w.toNat false = true → ((pB c p).set (a : Int).toNat false).getD w.toNat false = true := fun w hw => by
      have la : (pB c p').length = p'.length := pB_len
      have lb : (pB c p).length = p.length := pB_len
      rw [bgetD_set (by omega)] at hw ⊢
      split
      · rename_i e; rw [if_pos e] at hw; exact hw
      · rename_i e; rw [if_neg e] at hw; exact H.pB w hw
    have ua : Rc q.nbrs (pB c p') u a := Classical.byContradiction fun h10 => h5 ((avoid h10 (by omega) H.W'.g.gr hur.1 (by omega) uv).mono mset)
    have au := ua.symm H.W'.g.gr hur.1 (by omega) pu
    refine .inr ⟨?_, ?_, ⟨u, v, hua, hva, hu', hv', au, au.trans uv, fun h10 => h5 (h10.mono mset)⟩, h6⟩
    · have := ua.isIn pu
      rwa [Int.toNat_natCast] at this
    · cases hc : (cB c p').getD a false with
      | false => rfl
      | true => rw [set_of_cB (by omega) hc hs] at h6; cases h6
theorem loop_mono (H : SubAll c q p p') (hok : loopOk c q p') (hleft : ∀ v, v < p'.length → ∃ s, tb (p'.getD v 0) s = true ∧ ¬ loopD c q p' v s) : loopOk c q p ∧ ∀ a s, a < p.length → tb (p'.getD a 0) s = true → loopD c q p a s → loopD c q p' a s := by
  have hl := H.len
  have hleft' : ∀ v, v < p'.length → ∃ s, tb (p'.getD v 0) s = true ∧ ¬ farD c q p' v s := fun v hv => by
    obtain ⟨t, h1, h2⟩ := hleft v hv
    exact ⟨t, h1, fun h => h2 (.inl h)⟩
  have cb : ∀ v : Nat, (cB c p).getD v false = true → (cB c p').getD v false = true := fun v h => H.cB (v : Int) h
  have dP : ∀ v : Int, deg q.nbrs (pB c p') v ≤ deg q.nbrs (pB c p) v := fun v => countP_le _ fun x _ h => H.pB x h
  have dC : ∀ v : Int, deg q.nbrs (cB c p) v ≤ deg q.nbrs (cB c p') v := fun v => countP_le _ fun x _ h => H.cB x h
  refine ⟨fun v hv hc => ?_, fun a s ha hs h => ?_⟩
  · have := hok v (by omega) (cb v hc)
    have h1 := dP v
    have h2 := dC v
    omega
  · rcases h with h | ⟨v, hv, h1, h2, h3, h4⟩
    · exact .inl (far_mono H hleft' ha hs h)
    · have hk := hok v (by omega) (cb v h1)
      have e1 := dP v
      have e2 := dC v
      refine .inr ⟨v, by omega, cb v h1, h2, ?_⟩
      rcases h4 with ⟨h4, h5⟩ | ⟨h4, h5, h6⟩
      · have hp : (pB c p').getD a false = true := by
          cases hp : (pB c p').getD a false with
          | true => rfl
          | false =>
            have := countP_lt (f := fun x : Int => (pB c p').getD x.toNat false) (g := fun x : Int => (pB c p).getD x.toNat false) (a := (a : Int)) hp h3 (nb q.nbrs v) (fun x _ h => H.pB x h) h2
            have e3 : deg q.nbrs (pB c p') v + 1 ≤ deg q.nbrs (pB c p) v := this
            omega
        exact ⟨hp, .inl ⟨by omega, h5⟩⟩
      · have hp := pB_of (c := c) (by omega) hs h6
        have hc : (cB c p').getD a false = false := by
          cases hc : (cB c p').getD a false with
          | false => rfl
          | true =>
            have := countP_lt (f := fun x : Int => (cB c p).getD x.toNat false) (g := fun x : Int => (cB c p').getD x.toNat false) (a := (a : Int)) h5 hc (nb q.nbrs v) (fun x _ h => H.cB x h) h2
            have e3 : deg q.nbrs (cB c p) v + 1 ≤ deg q.nbrs (cB c p') v := this
            omega
        exact ⟨hp, .inr ⟨by omega, hc, h6⟩⟩
end
/-- A constraint that leaves something of lesser sets leaves it of greater ones. -/
theorem mono (C : Ctx q i p) (C' : Ctx q i p') (hS : Sub (con q i) p' p) (hA : OA q (con q i) p') :
    okC q (con q i) p ∧ ∀ k, k < (con q i).cells.length → ∀ s, tb (setAt (con q i) p' k) s = true → lostC q (con q i) p k s → lostC q (con q i) p' k s := by
  have W := C.work
  have W' := C'.work
  have hin : ∀ a, a < (con q i).cells.length → In64 (setAt (con q i) p' a) := fun a ha => (W'.at ha).in64 (by have := W'.k; omega)
  have kc := kind_cases (kind_range C.kind)
  have okT : ∀ {k : Int}, (con q i).kind = k → k ≠ 2 → k ≠ 3 → k ≠ 9 → okC q (con q i) p := fun hk h2 h3 h9 => ⟨fun h => absurd (hk.symm.trans h) h2, fun h => absurd (hk.symm.trans h) h3, hA.ok.2.2.1, fun h => absurd (hk.symm.trans h) h9⟩
  have all : ∀ {hk : (con q i).kind = 8 ∨ (con q i).kind = 9}, SubAll (con q i) q p p' := fun {hk} => by
    have hl := C.len
    have hl' := C'.len
    have hd' : deadB p' = false := deadB_false.2 fun j hj => by
      have hk8 : (con q i).cells.length = p'.length := by
        have h := C'.kind
        unfold kindOk at h
        rcases hk with hk | hk <;> rw [hk] at h <;> simp at h <;> omega
      have := hA.nz j (by omega)
      have e : setAt (con q i) p' j = p'.getD j 0 := by
        unfold setAt
        rw [C'.cells.2.2 (by omega) j (by omega), Int.toNat_natCast]
      rwa [e] at this
    have A' := C'.all hk hd'
    have hsub : ∀ j, j < p.length → ∀ s, tb (p'.getD j 0) s = true → tb (p.getD j 0) s = true := fun j hj s hs => by
      have e : ∀ x : List Int, setAt (con q i) x j = x.getD j 0 := fun x => by
        unfold setAt
        rw [A'.id j (by omega), Int.toNat_natCast]
      have := hS j (by rw [A'.len]; omega) s (by rw [e]; exact hs)
      rwa [e] at this
    have hd : deadB p = false := deadB_false.2 fun j hj => by
      have h := deadB_false.1 hd' j (by omega)
      obtain ⟨s, h1, h2⟩ := (tb_ne_zero ((C'.sm j (by omega)).in64 (by have := W'.k; omega))).1 h
      exact (tb_ne_zero ((C.sm j hj).in64 (by have := W'.k; omega))).2 ⟨s, h1, hsub j hj s h2⟩
    exact ⟨C.all hk hd, A', by omega, hsub⟩
  rcases kc with hk | hk | hk | hk | hk | hk | hk | hk | hk
  · refine ⟨okT hk (by decide) (by decide) (by decide), fun k hkl s hs h => ?_⟩
    unfold lostC at h ⊢
    rw [hk] at h ⊢
    simp at h ⊢
    exact diff_mono W hS hin hA.nz h
  · have h2 := count_mono hS hin hA.nz (hA.ok.1 hk)
    refine ⟨⟨fun _ => h2.1, fun h => absurd (hk.symm.trans h) (by decide), hA.ok.2.2.1, fun h => absurd (hk.symm.trans h) (by decide)⟩, fun k hkl s hs h => ?_⟩
    unfold lostC at h ⊢
    rw [hk] at h ⊢
    simp at h ⊢
    exact h2.2 k s hkl hs h
  · have h2 := sum_mono (q := q) W W' hS (hA.ok.2.1 hk)
    refine ⟨⟨fun h => absurd (hk.symm.trans h) (by decide), fun _ => h2.1, hA.ok.2.2.1, fun h => absurd (hk.symm.trans h) (by decide)⟩, fun k hkl s hs h => ?_⟩
    unfold lostC at h ⊢
    rw [hk] at h ⊢
    simp at h ⊢
    exact h2.2 k s hkl h
  · refine ⟨okT hk (by decide) (by decide) (by decide), fun k hkl s hs h => ?_⟩
    unfold lostC at h ⊢
    rw [hk] at h ⊢
    simp at h ⊢
    exact rise_mono W W' hS hkl h
  · refine ⟨okT hk (by decide) (by decide) (by decide), fun k hkl s hs h => ?_⟩
    unfold lostC at h ⊢
    rw [hk] at h ⊢
    simp at h ⊢
    exact runs_mono hS hkl h
  · refine ⟨okT hk (by decide) (by decide) (by decide), fun k hkl s hs h => ?_⟩
    have h2 := C.two (.inl hk)
    unfold lostC at h ⊢
    rw [hk] at h ⊢
    simp at h ⊢
    exact pair_mono hS h2 h
  · refine ⟨okT hk (by decide) (by decide) (by decide), fun k hkl s hs h => ?_⟩
    have h2 := C.two (.inr hk)
    unfold lostC at h ⊢
    rw [hk] at h ⊢
    simp at h ⊢
    exact pair_mono hS h2 h
  · have H := all (hk := .inl hk)
    have e : ∀ (x : List Int) (j : Nat), j < p.length → setAt (con q i) x j = x.getD j 0 := fun x j hj => by
      unfold setAt
      rw [H.W.id j hj, Int.toNat_natCast]
    have hlen := H.W.len
    have hl := H.len
    have lc : ∀ x a s, lostC q (con q i) x a s ↔ connD (con q i) q x a s := fun x a s => by unfold lostC; rw [hk]; simp
    refine ⟨okT hk (by decide) (by decide) (by decide), fun k hkl s hs h => ?_⟩
    rw [lc] at h ⊢
    rw [e _ _ (by omega)] at hs
    refine conn_mono H (fun v hv => ?_) (by omega) hs h
    obtain ⟨t, h1, h2⟩ := hA.left v (by omega)
    rw [e _ _ (by omega)] at h1
    exact ⟨t, h1, fun h3 => h2 ((lc _ _ _).2 h3)⟩
  · have H := all (hk := .inr hk)
    have e : ∀ (x : List Int) (j : Nat), j < p.length → setAt (con q i) x j = x.getD j 0 := fun x j hj => by
      unfold setAt
      rw [H.W.id j hj, Int.toNat_natCast]
    have hlen := H.W.len
    have hl := H.len
    have lc : ∀ x a s, lostC q (con q i) x a s ↔ loopD (con q i) q x a s := fun x a s => by unfold lostC; rw [hk]; simp
    have h2 := loop_mono H (hA.ok.2.2.2 hk) fun v hv => by
      obtain ⟨t, h1, h2⟩ := hA.left v (by omega)
      rw [e _ _ (by omega)] at h1
      exact ⟨t, h1, fun h3 => h2 ((lc _ _ _).2 h3)⟩
    refine ⟨⟨fun h => absurd (hk.symm.trans h) (by decide), fun h => absurd (hk.symm.trans h) (by decide), hA.ok.2.2.1, fun _ => h2.1⟩, fun k hkl s hs h => ?_⟩
    rw [lc] at h ⊢
    rw [e _ _ (by omega)] at hs
    exact h2.2 k s (by omega) hs h
end
end Go.Proofs.YtekkngkphejfcaaDoor
namespace Go.Proofs.YtekkngkphejfcaaDoor
open Go.RowKit
set_option maxRecDepth 100000
set_option maxHeartbeats 40000000
theorem s_lawLocal_30 : SOk (regF Tryd.f4 30) [] (List.range 44) [] := by unfold SOk; kernel_rfl
def sch_lawLocal : Sch := fun i => match i with
  | 30 => .ord [] (List.range 44) []
  | _ => .no
inductive lawLocalPt where
  | l1 (x9 : List Int) (x70 : Int) (o1 : List Bool)
  | l2 (x9 : List Int) (x83 : Int) (o1 : List Bool) (o2 : List Int)
  | l3 (x9 x18 : List Int) (x135 : Int) (o0 : List Bool)
def lawLocal_l1 (n : Nat) (self : lawLocalPt → Option Bool) (q : ProbD) (i : Int) (a b_ : List Int) (x9 : List Int) (x70 : Int) (o1 : List Bool) : Option Bool :=
  bif (decide (x70 < ((((q.cons.getD ((i).toNat) default).cells).length : Nat) : Int))) then
   if (0 ≤ x70 ∧ x70 < ((((q.cons.getD ((i).toNat) default).cells).length : Nat) : Int)) ∧ ((0 : Int) ≤ (((q.cons.getD ((i).toNat) default).cells).getD ((x70).toNat) 0) ∧ (((q.cons.getD ((i).toNat) default).cells).getD ((x70).toNat) 0) < (a.length : Int)) ∧ 0 + ((((q.cons.getD ((i).toNat) default).cells).getD ((x70).toNat) 0).toNat) < o1.length ∧ R64 (x70 + 1) then
    self (.l1 x9 (x70 + 1) (o1.set (0 + ((((q.cons.getD ((i).toNat) default).cells).getD ((x70).toNat) 0).toNat)) true))
   else none
  else
   if (True) ∧ (0 = 0 ∧ 0 = ([] : List Int).length) ∧ ([] : List Int).length + b_.length ≤ LIM then
    self (.l2 x9 0 o1 (([] : List Int) ++ b_))
   else none
def lawLocal_l2 (n : Nat) (self : lawLocalPt → Option Bool) (q : ProbD) (i : Int) (a b_ : List Int) (x9 : List Int) (x83 : Int) (o1 : List Bool) (o2 : List Int) : Option Bool :=
  bif (decide (x83 < (a.length : Int))) then
   if (0 ≤ x83 ∧ x83 < (a.length : Int)) ∧ 0 + ((x83).toNat) < o1.length then
    bif (o1.getD (0 + ((x83).toNat)) false) then
     if (0 ≤ x83 ∧ x83 < ((([] : List Int).length + b_.length : Nat) : Int)) ∧ 0 + ((x83).toNat) < o2.length ∧ R64 (x83 + 1) then
      self (.l2 x9 (x83 + 1) o1 (o2.set (0 + ((x83).toNat)) (a.getD ((x83).toNat) 0)))
     else none
    else
     if R64 (x83 + 1) then
      self (.l2 x9 (x83 + 1) o1 o2)
     else none
   else none
  else
   if ([] : List Int).length + b_.length = o2.length then
    (pruneP n q i o2).bind fun y1 =>
     bif (y1.2 != 0) then
      some false
     else
      bif ((x9.length : Int) != (a.length : Int)) then
       some false
      else
       bif ((y1.1.length : Int) != (a.length : Int)) then
        some false
       else
        (isDead n x9).bind fun y2 =>
         (isDead n y1.1).bind fun y3 =>
          bif (!(y2 == y3)) then
           some false
          else
           (isDead n x9).bind fun y4 =>
            bif y4 then
             (same n x9 y1.1).bind fun y5 =>
              some y5
            else
             self (.l3 x9 y1.1 0 o1)
   else none
def lawLocal_l3 (n : Nat) (self : lawLocalPt → Option Bool) (q : ProbD) (i : Int) (a b_ : List Int) (x9 x18 : List Int) (x135 : Int) (o0 : List Bool) : Option Bool :=
  bif (decide (x135 < (a.length : Int))) then
   if (0 ≤ x135 ∧ x135 < (a.length : Int)) ∧ 0 + ((x135).toNat) < o0.length then
    bif (o0.getD (0 + ((x135).toNat)) false) then
     if (0 ≤ x135 ∧ x135 < (x9.length : Int)) ∧ (0 ≤ x135 ∧ x135 < (x18.length : Int)) then
      bif ((x9.getD ((x135).toNat) 0) != (x18.getD ((x135).toNat) 0)) then
       some false
      else
       if R64 (x135 + 1) then
        self (.l3 x9 x18 (x135 + 1) o0)
       else none
     else none
    else
     if 0 ≤ x135 ∧ x135 < (x9.length : Int) then
      bif ((x9.getD ((x135).toNat) 0) != (a.getD ((x135).toNat) 0)) then
       some false
      else
       if (0 ≤ x135 ∧ x135 < (x18.length : Int)) ∧ (0 ≤ x135 ∧ x135 < (b_.length : Int)) then
        bif ((x18.getD ((x135).toNat) 0) != (b_.getD ((x135).toNat) 0)) then
         some false
        else
         if R64 (x135 + 1) then
          self (.l3 x9 x18 (x135 + 1) o0)
         else none
       else none
     else none
   else none
  else
   some true
def lawLocal_l0 (n : Nat) (self : lawLocalPt → Option Bool) (q : ProbD) (i : Int) (a b_ : List Int) : Option Bool :=
  (sane n).bind fun y1 =>
   bif (!y1) then
    some false
   else
    (few n q a).bind fun y2 =>
     bif (!y2) then
      some true
     else
      bif (decide ((b_.length : Int) > 20)) then
       some true
      else
       (pruneP n q i a).bind fun y3 =>
        (pruneP n q i b_).bind fun y4 =>
         bif (y3.2 != 0) then
          some true
         else
          bif (y4.2 != 0) then
           some true
          else
           (isDead n a).bind fun y5 =>
            bif y5 then
             some true
            else
             (isDead n b_).bind fun y6 =>
              bif y6 then
               some true
              else
               if (((a.length : Int) : Int) = (a.length : Int) ∧ 0 ≤ (a.length : Int) ∧ ((a.length : Int) : Int) ≤ 1000000000000) ∧ (0 ≤ i ∧ i < (q.cons.length : Int)) then
                self (.l1 y3.1 0 (List.replicate a.length false))
               else none
def lawLocal_m (q : ProbD) (i : Int) (a b_ : List Int) : Nat → lawLocalPt → Option Bool
  | 0, _ => none
  | n + 1, .l1 x9 x70 o1 => lawLocal_l1 n (lawLocal_m q i a b_ n) q i a b_ x9 x70 o1
  | n + 1, .l2 x9 x83 o1 o2 => lawLocal_l2 n (lawLocal_m q i a b_ n) q i a b_ x9 x83 o1 o2
  | n + 1, .l3 x9 x18 x135 o0 => lawLocal_l3 n (lawLocal_m q i a b_ n) q i a b_ x9 x18 x135 o0
def lawLocal (n : Nat) (q : ProbD) (i : Int) (a b_ : List Int) : Option Bool := lawLocal_l0 n (lawLocal_m q i a b_ n) q i a b_
/-- What the points stand for. -/
def lawLocal_at (n : Nat) (B : Nat) (N : Yard Tryd.prog GG 0) (q : ProbD) (i : Int) (a b_ : List Int) (r : Bool) : lawLocalPt → Prop
  | .l1 x9 x70 o1 => ∀ m0 : Nat, n ≤ m0 → TrK Tryd.prog GG Fence.wide (some B) 0 N (Fin Tryd.prog Tryd.f4 0 (.bool r) []) (toN m0 (atNC (bodyC Tryd.f4) 0 [])) ⟨frm 183 [(1, .i i), (2, .ints a), (3, .ints b_), (4, .ref 0 0), (9, .ints x9), (13, .msl 1 1 0 a.length), (68, .ints ((q.cons.getD ((i).toNat) default).cells)), (69, .i ((((q.cons.getD ((i).toNat) default).cells).length : Nat) : Int)), (70, .i x70)], [some (.cells (probC q)), some (.bools o1)]⟩
  | .l2 x9 x83 o1 o2 => ∀ m0 : Nat, n ≤ m0 → TrK Tryd.prog GG Fence.wide (some B) 0 N (Fin Tryd.prog Tryd.f4 0 (.bool r) []) (toN m0 (atNC (bodyC Tryd.f4) 2 [])) ⟨frm 183 [(1, .i i), (2, .ints a), (3, .ints b_), (4, .ref 0 0), (9, .ints x9), (13, .msl 1 1 0 a.length), (16, .msl 2 1 0 (([] : List Int).length + b_.length)), (82, .i (a.length : Int)), (83, .i x83)], [some (.cells (probC q)), some (.bools o1), some (.ints o2)]⟩
  | .l3 x9 x18 x135 o0 => ∀ m0 : Nat, n ≤ m0 → TrK Tryd.prog GG Fence.wide (some B) 0 N (Fin Tryd.prog Tryd.f4 0 (.bool r) []) (toN m0 (atNC (bodyC Tryd.f4) 4 [])) ⟨frm 183 [(2, .ints a), (3, .ints b_), (9, .ints x9), (13, .msl 0 1 0 a.length), (18, .ints x18), (134, .i (a.length : Int)), (135, .i x135)], [some (.bools o0)]⟩
theorem lawLocal_all (B : Nat) (N : Yard Tryd.prog GG 0) (q : ProbD) (i : Int) (a b_ : List Int) : ∀ (n : Nat) (pt : lawLocalPt) (r : Bool), lawLocal_m q i a b_ n pt = some r → lawLocal_at n B N q i a b_ r pt := by
  intro n; induction n with
  | zero => intro _ _ h; cases h
  | succ n hself =>
   intro pt r h
   cases pt
   case l1 x9 x70 o1 =>
    have h : lawLocal_l1 n (lawLocal_m q i a b_ n) q i a b_ x9 x70 o1 = some r := h
    intro m0 hm0
    refine rd hm0 fun m0 hm0 => ?_
    unfold lawLocal_l1 at h
    rcases bifSome h with ⟨c0, h⟩ | ⟨c0, h⟩
    · obtain ⟨⟨g0, g1, g2, g3⟩, h⟩ := guardSome h
      exact gg sch_lawLocal [0, 1] (H0.b 71 c0 |>.g g0 |>.g g1 |>.g g2 |>.w 77 g3) (hself _ _ h m0 hm0)
    · obtain ⟨g0, h⟩ := guardSome h
      exact gg sch_lawLocal [0, 1, 3] (H0.b 71 c0 |>.g g0) (en n (hself _ _ h n (Nat.le_refl _)))
   case l2 x9 x83 o1 o2 =>
    have h : lawLocal_l2 n (lawLocal_m q i a b_ n) q i a b_ x9 x83 o1 o2 = some r := h
    intro m0 hm0
    refine rd hm0 fun m0 hm0 => ?_
    unfold lawLocal_l2 at h
    rcases bifSome h with ⟨c0, h⟩ | ⟨c0, h⟩
    · obtain ⟨⟨g0, g1⟩, h⟩ := guardSome h
      have p := H0.b 84 c0 |>.g g0 |>.g g1
      rcases bifSome h with ⟨c1, h⟩ | ⟨c1, h⟩
      · obtain ⟨⟨g2, g3, g4⟩, h⟩ := guardSome h
        exact gg sch_lawLocal [0, 1, 2] (p.b 89 c1 |>.g g0 |>.g g2 |>.g g3 |>.w 97 g4) (hself _ _ h m0 hm0)
      · obtain ⟨g2, h⟩ := guardSome h
        exact gg sch_lawLocal [0, 1, 2] (p.b 89 c1 |>.w 97 g2) (hself _ _ h m0 hm0)
    · obtain ⟨g0, h⟩ := guardSome h
      refine gz (stopAt 22 sch_lawLocal) [0, 1, 2] (H0.b 84 c0) [2] (H0.g g0) (atGC (bodyC Tryd.f4) 22 []) (frm 183 [(1, .i i), (2, .ints a), (3, .ints b_), (4, .ref 0 0), (9, .ints x9), (13, .msl 1 1 0 a.length), (16, .ints o2)]) [some (.cells (probC q)), some (.bools o1), none] ?_
      obtain ⟨y1, hy1, h⟩ := bindSome h
      have p := H0.c (fb (pruneP_ok hy1) [some (.cells (probC q)), some (.bools o1), none])
      rcases bifSome h with ⟨c0, h⟩ | ⟨c0, h⟩
      · obtain rfl := Option.some.inj h
        exact ee sch_lawLocal [8] [] (p.b 106 c0)
      · have p := p.b 106 c0
        rcases bifSome h with ⟨c1, h⟩ | ⟨c1, h⟩
        · obtain rfl := Option.some.inj h
          exact ee sch_lawLocal [8] [] (p.b 112 c1)
        · have p := p.b 112 c1
          rcases bifSome h with ⟨c2, h⟩ | ⟨c2, h⟩
          · obtain rfl := Option.some.inj h
            exact ee sch_lawLocal [8] [] (p.b 119 c2)
          · obtain ⟨y2, hy2, h⟩ := bindSome h
            obtain ⟨y3, hy3, h⟩ := bindSome h
            have p := p.b 119 c2 |>.c (fb (isDead_ok hy2) [some (.cells (probC q)), some (.bools o1), none]) |>.c (fb (isDead_ok hy3) [some (.cells (probC q)), some (.bools o1), none])
            rcases bifSome h with ⟨c3, h⟩ | ⟨c3, h⟩
            · obtain rfl := Option.some.inj h
              exact ee sch_lawLocal [8] [] (p.b 126 c3)
            · obtain ⟨y4, hy4, h⟩ := bindSome h
              have p := p.b 126 c3 |>.c (fb (isDead_ok hy4) [some (.cells (probC q)), some (.bools o1), none])
              rcases bifSome h with ⟨c4, h⟩ | ⟨c4, h⟩
              · obtain ⟨y5, hy5, h⟩ := bindSome h
                obtain rfl := Option.some.inj h
                exact ee sch_lawLocal [8] [] (p.b 129 c4 |>.c (fb (same_ok hy5) [some (.cells (probC q)), some (.bools o1), none]))
              · exact gg sch_lawLocal [1] (p.b 129 c4) (en n (hself _ _ h n (Nat.le_refl _)))
   case l3 x9 x18 x135 o0 =>
    have h : lawLocal_l3 n (lawLocal_m q i a b_ n) q i a b_ x9 x18 x135 o0 = some r := h
    intro m0 hm0
    refine rd hm0 fun m0 hm0 => ?_
    unfold lawLocal_l3 at h
    rcases bifSome h with ⟨c0, h⟩ | ⟨c0, h⟩
    · obtain ⟨⟨g0, g1⟩, h⟩ := guardSome h
      have p := H0.b 136 c0 |>.g s_lawLocal_30 |>.g g0 |>.g g1
      rcases bifSome h with ⟨c1, h⟩ | ⟨c1, h⟩
      · obtain ⟨⟨g2, g3⟩, h⟩ := guardSome h
        have p := p.b 141 c1 |>.g g2 |>.g g3
        rcases bifSome h with ⟨c2, h⟩ | ⟨c2, h⟩
        · obtain rfl := Option.some.inj h
          exact ee sch_lawLocal [8] [] (p.b 151 c2)
        · obtain ⟨g4, h⟩ := guardSome h
          exact gg sch_lawLocal [0] (p.b 151 c2 |>.g g0 |>.g g1 |>.b 157 c1 |>.w 182 g4) (hself _ _ h m0 hm0)
      · obtain ⟨g2, h⟩ := guardSome h
        have p := p.b 141 c1 |>.g g0 |>.g g1 |>.b 157 c1 |>.g g2 |>.g g0
        rcases bifSome h with ⟨c2, h⟩ | ⟨c2, h⟩
        · obtain rfl := Option.some.inj h
          exact ee sch_lawLocal [8] [] (p.b 168 c2)
        · obtain ⟨⟨g3, g4⟩, h⟩ := guardSome h
          have p := p.b 168 c2 |>.g g3 |>.g g4
          rcases bifSome h with ⟨c3, h⟩ | ⟨c3, h⟩
          · obtain rfl := Option.some.inj h
            exact ee sch_lawLocal [8] [] (p.b 178 c3)
          · obtain ⟨g5, h⟩ := guardSome h
            exact gg sch_lawLocal [0] (p.b 178 c3 |>.w 182 g5) (hself _ _ h m0 hm0)
    · obtain rfl := Option.some.inj h
      exact ee sch_lawLocal [8] [] (H0.b 136 c0)
theorem lawLocal_ok {n : Nat} {q : ProbD} {i : Int} {a b_ : List Int} {r : Bool} (h : lawLocal n q i a b_ = some r) : ES Tryd.prog GG 4 [.agg 5 (L1 (probC q)), .i i, .ints a, .ints b_] [] (.bool r) [] true := by
  refine ot Tryd.func4 fun B N => ?_
  have hself := lawLocal_all B N q i a b_ n
  unfold lawLocal at h
  unfold lawLocal_l0 at h
  obtain ⟨y1, hy1, h⟩ := bindSome h
  have p := H0.c (fb (sane_ok hy1) [some (.cells (probC q))])
  rcases bifSome h with ⟨c0, h⟩ | ⟨c0, h⟩
  · obtain rfl := Option.some.inj h
    exact ee sch_lawLocal [8] [] (p.b 22 c0)
  · obtain ⟨y2, hy2, h⟩ := bindSome h
    have p := p.b 22 c0 |>.c (fb (few_ok hy2) [some (.cells (probC q))])
    rcases bifSome h with ⟨c1, h⟩ | ⟨c1, h⟩
    · obtain rfl := Option.some.inj h
      exact ee sch_lawLocal [8] [] (p.b 26 c1)
    · have p := p.b 26 c1
      rcases bifSome h with ⟨c2, h⟩ | ⟨c2, h⟩
      · obtain rfl := Option.some.inj h
        exact ee sch_lawLocal [8] [] (p.b 30 c2)
      · obtain ⟨y3, hy3, h⟩ := bindSome h
        obtain ⟨y4, hy4, h⟩ := bindSome h
        have p := p.b 30 c2 |>.c (fb (pruneP_ok hy3) [some (.cells (probC q))]) |>.c (fb (pruneP_ok hy4) [some (.cells (probC q))])
        rcases bifSome h with ⟨c3, h⟩ | ⟨c3, h⟩
        · obtain rfl := Option.some.inj h
          exact ee sch_lawLocal [8] [] (p.b 47 c3)
        · have p := p.b 47 c3
          rcases bifSome h with ⟨c4, h⟩ | ⟨c4, h⟩
          · obtain rfl := Option.some.inj h
            exact ee sch_lawLocal [8] [] (p.b 50 c4)
          · obtain ⟨y5, hy5, h⟩ := bindSome h
            have p := p.b 50 c4 |>.c (fb (isDead_ok hy5) [some (.cells (probC q))])
            rcases bifSome h with ⟨c5, h⟩ | ⟨c5, h⟩
            · obtain rfl := Option.some.inj h
              exact ee sch_lawLocal [8] [] (p.b 54 c5)
            · obtain ⟨y6, hy6, h⟩ := bindSome h
              have p := p.b 54 c5 |>.c (fb (isDead_ok hy6) [some (.cells (probC q))])
              rcases bifSome h with ⟨c6, h⟩ | ⟨c6, h⟩
              · obtain rfl := Option.some.inj h
                exact ee sch_lawLocal [8] [] (p.b 58 c6)
              · obtain ⟨⟨g0, g1⟩, h⟩ := guardSome h
                exact gg sch_lawLocal [0, 1] (p.b 58 c6 |>.g g0 |>.g g1) (en n (hself _ _ h n (Nat.le_refl _)))
end Go.Proofs.YtekkngkphejfcaaDoor
namespace Go.Proofs.YtekkngkphejfcaaDoor
open Go.RowKit
theorem same_eq {a b : List Int} {n : Nat} (hl : a.length ≤ LB) (hn : a.length < n) : same n a b = some (decide (a = b)) := by
  have hb : LB ≤ 9223372036854775806 := by decide
  unfold same same_l0
  by_cases hlen : a.length = b.length
  · have e : ((a.length : Int) != (b.length : Int)) = false := by rw [hlen]; simp
    rw [e, cond_false]
    have key : ∀ (k i n : Nat), i + k = a.length → k + 1 ≤ n → same_m a b n (.l1 (i : Int)) = some (decide (a.drop i = b.drop i)) := by
      intro k
      induction k with
      | zero =>
        intro i n e hn
        obtain ⟨n, rfl⟩ : ∃ k, n = k + 1 := ⟨n - 1, by omega⟩
        show same_l1 n (same_m a b n) a b (i : Int) = _
        unfold same_l1
        rw [decide_eq_false (by omega), cond_false, List.drop_eq_nil_of_le (by omega), List.drop_eq_nil_of_le (by omega)]; rfl
      | succ k ih =>
        intro i n e hn
        obtain ⟨n, rfl⟩ : ∃ k, n = k + 1 := ⟨n - 1, by omega⟩
        have hi : i < a.length := by omega
        have hi' : i < b.length := by omega
        have d : ∀ {l : List Int}, i < l.length → l.drop i = l.getD i 0 :: l.drop (i + 1) := fun {l} h => by
          rw [List.drop_eq_getElem_cons h, List.getD_eq_getElem?_getD, List.getElem?_eq_getElem h]; rfl
        have := ih (i + 1) n (by omega) (by omega)
        show same_l1 n (same_m a b n) a b (i : Int) = _
        unfold same_l1
        rw [decide_eq_true (by omega), cond_true, if_pos ⟨⟨by omega, by omega⟩, by omega, by omega⟩, Int.toNat_natCast, if_pos (R64_iff.2 ⟨by omega, by omega⟩), d hi, d hi']
        by_cases h : a.getD i 0 = b.getD i 0
        · have : (a.getD i 0 != b.getD i 0) = false := by rw [h]; simp
          rw [this, cond_false]
          refine Eq.trans (by assumption) ?_
          rw [h]; simp
        · have : (a.getD i 0 != b.getD i 0) = true := by simpa using h
          rw [this, cond_true, decide_eq_false fun e => h (List.cons.inj e).1]
    exact key a.length 0 n (by omega) (by omega)
  · have e : ((a.length : Int) != (b.length : Int)) = true := by simp; omega
    rw [e, cond_true, decide_eq_false fun h => hlen (by rw [h])]
section
variable {q : ProbD} {i : Int} {pos x : List Int}
theorem posOk_iff (hv : validB q = true) {y : List Int} : posOk q y = true ↔ (y.length : Int) = q.cells ∧ ∀ j, j < y.length → Sm q.symbols.toNat (y.getD j 0) := by
  unfold posOk
  rw [Bool.and_eq_true, beq_iff_eq, List.all_eq_true]
  constructor
  · rintro ⟨h1, h2⟩
    refine ⟨h1, fun j hj => ?_⟩
    have hm : y.getD j 0 ∈ y := by rw [List.getD_eq_getElem?_getD, List.getElem?_eq_getElem hj]; exact List.getElem_mem hj
    have := h2 _ hm
    rw [Bool.and_eq_true, decide_eq_true_iff, decide_eq_true_iff] at this
    exact this
  · rintro ⟨h1, h2⟩
    refine ⟨h1, fun z hz => ?_⟩
    obtain ⟨j, hj, rfl⟩ := List.getElem_of_mem hz
    have := h2 j hj
    rw [List.getD_eq_getElem?_getD, List.getElem?_eq_getElem hj] at this
    rw [Bool.and_eq_true, decide_eq_true_iff, decide_eq_true_iff]
    exact this
theorem zeros_dead {m : Nat} (h : 0 < m) : deadB (List.replicate m (0 : Int)) = true := by
  cases m with
  | zero => omega
  | succ m => rfl
end
end Go.Proofs.YtekkngkphejfcaaDoor
namespace Go.Proofs.YtekkngkphejfcaaDoor
open Go.RowKit
theorem sane_ev : Ev sane true := ⟨200, fun n hn => by
  obtain ⟨k, rfl⟩ : ∃ k, n = k + 200 := ⟨n - 200, by omega⟩
  exact (show ∀ k, sane (k + 200) = some true from fun k => by kernel_rfl) k⟩
section
variable {q : ProbD} {i : Int} {pos : List Int}
/-- A law starts so: the examples hold; a problem that is not small is passed over. -/
theorem law_start {n : Nat → Option Bool} {f : Nat → Option Bool} (h : ∀ m, n m = (sane m).bind fun y1 => bif (!y1) then some false else (few m q pos).bind fun y2 => bif (!y2) then some true else f m) (hf : Ev f true) : Ev n true := by
  obtain ⟨N, hs⟩ := sane_ev
  obtain ⟨M, hf⟩ := hf
  refine ⟨N + M + q.cons.length + 1, fun m hm => ?_⟩
  obtain ⟨b, hb⟩ := few_some (q := q) (pos := pos) (n := m) (by omega)
  rw [h, hs m (by omega), Option.bind_some, hb, Option.bind_some, hf m (by omega)]
  cases b <;> rfl
end
end Go.Proofs.YtekkngkphejfcaaDoor
namespace Go.Proofs.YtekkngkphejfcaaDoor
open Go.RowKit
section
variable {q : ProbD} {i : Int} {p p' x z : List Int}
theorem LC_at (C : Ctx q i p) {k s : Nat} (hk : k < (con q i).cells.length) : LC q (con q i) p ((con q i).cells.getD k 0).toNat s ↔ lostC q (con q i) p k s := by
  constructor
  · rintro ⟨a, ha, e, h⟩
    have h1 := C.work.cells a ha
    have h2 := C.work.cells k hk
    have hnd := C.cells.2.1
    have e2 : (con q i).cells.getD a 0 = (con q i).cells.getD k 0 := by omega
    rw [List.getD_eq_getElem?_getD, List.getElem?_eq_getElem ha, List.getD_eq_getElem?_getD, List.getElem?_eq_getElem hk] at e2
    have e2 : (con q i).cells[a] = (con q i).cells[k] := e2
    have hp := List.pairwise_iff_getElem.1 hnd
    have : a = k := by
      rcases Nat.lt_trichotomy a k with h3 | h3 | h3
      · exact absurd e2 (hp a k ha hk h3)
      · exact h3
      · exact absurd e2.symm (hp k a hk ha h3)
    subst this
    exact h
  · intro h
    exact ⟨k, hk, rfl, h⟩
theorem alive_iff (C : Ctx q i p) : Alive q (con q i) p ↔ (∀ j, j < p.length → p.getD j 0 ≠ 0) ∧ OA q (con q i) p := by
  have W := C.work
  constructor
  · intro h
    refine ⟨h.nz, fun k hk => h.nz _ (by have := W.cells k hk; omega), h.ok, fun k hk => ?_⟩
    obtain ⟨s, _, h1, h2⟩ := h.left ((con q i).cells.getD k 0).toNat (by have := W.cells k hk; omega)
    exact ⟨s, h1, fun h3 => h2 ((LC_at C hk).2 h3)⟩
  · rintro ⟨h1, h2⟩
    refine ⟨h1, h2.ok, fun j hj => ?_⟩
    by_cases hown : ∃ k, k < (con q i).cells.length ∧ ((con q i).cells.getD k 0).toNat = j
    · obtain ⟨k, hk, rfl⟩ := hown
      obtain ⟨s, h3, h4⟩ := h2.left k hk
      exact ⟨s, Nat.lt_of_not_le fun h => (by rw [tb_ge h] at h3; cases h3), h3, fun h5 => h4 ((LC_at C hk).1 h5)⟩
    · obtain ⟨s, h3, h4⟩ := (tb_ne_zero ((C.sm j hj).in64 (by have := W.k; omega))).1 (h1 j hj)
      exact ⟨s, h3, h4, fun ⟨a, ha, e, _⟩ => hown ⟨a, ha, e⟩⟩
/-- The constraint leaves something of lesser sets: so it does of greater ones, and more. -/
theorem oa_mono (C : Ctx q i p) (C' : Ctx q i p') (hS : Sub (con q i) p' p) (hA : OA q (con q i) p') : OA q (con q i) p ∧ ∀ k, k < (con q i).cells.length → ∀ s, tb (setAt (con q i) p' k) s = true → lostC q (con q i) p k s → lostC q (con q i) p' k s := by
  obtain ⟨h1, h2⟩ := mono C C' hS hA
  have W := C.work
  refine ⟨⟨fun k hk => ?_, h1, fun k hk => ?_⟩, h2⟩
  · obtain ⟨s, h3, _⟩ := hA.left k hk
    exact (tb_ne_zero ((W.at hk).in64 (by have := W.k; omega))).2 ⟨s, Nat.lt_of_not_le fun h => (by rw [tb_ge h] at h3; cases h3), hS k hk s h3⟩
  · obtain ⟨s, h3, h4⟩ := hA.left k hk
    exact ⟨s, hS k hk s h3, fun h5 => h4 (h2 k hk s h3 h5)⟩
end
section
variable {q : ProbD} {i : Int} {a b : List Int}
theorem Ctx.same (C : Ctx q i a) {y : List Int} (hl : y.length = a.length) (h : ∀ j, j < y.length → Sm q.symbols.toNat (y.getD j 0)) : Ctx q i y :=
  ⟨C.fit, C.valid, C.i0, C.i1, (posOk_iff C.valid).2 ⟨by rw [hl]; exact C.len, h⟩⟩
theorem prune_ok (C : Ctx q i a) : ∃ x, Ev (fun n => pruneP n q i a) (x, 0) ∧ PR q (con q i) a x := by
  obtain ⟨r, h1, h2, h3, _⟩ := prune_ev (i := i) C.fit (pos := a) (Nat.le_trans C.len256.2 (by decide))
  obtain ⟨x, e⟩ := r
  have e0 : e = 0 := h2.trans C.check
  subst e0
  exact ⟨x, h1, h3 rfl⟩
theorem prune_bad (hF : Fit q) (hl : a.length ≤ LB) (h : checkV q i a ≠ 0) : ∃ e, e ≠ 0 ∧ Ev (fun n => pruneP n q i a) ([], e) := by
  obtain ⟨r, h1, h2, _, h4⟩ := prune_ev (i := i) hF hl
  obtain ⟨x, e⟩ := r
  have h2 : e = checkV q i a := h2
  have he : e ≠ 0 := by rw [h2]; exact h
  have : x = [] := h4 he
  subst this
  exact ⟨e, he, h1⟩
end
end Go.Proofs.YtekkngkphejfcaaDoor
namespace Go.Proofs.YtekkngkphejfcaaDoor
open Go.RowKit
section
variable {q : ProbD} {i : Int} {a b m x y : List Int}
/-- The constraint has the cell. -/
def Own (c : ConsD) (j : Nat) : Prop := ∃ k, k < c.cells.length ∧ (c.cells.getD k 0).toNat = j
/-- The cells of the constraint of one position, the others of another one. -/
structure Mix (c : ConsD) (a b m : List Int) : Prop where
  len : m.length = a.length
  lenb : b.length = a.length
  own : ∀ j, Own c j → m.getD j 0 = a.getD j 0
  other : ∀ j, ¬ Own c j → m.getD j 0 = b.getD j 0
theorem mix_ctx (C : Ctx q i a) (C2 : Ctx q i b) (M : Mix (con q i) a b m) : Ctx q i m := C.same M.len fun j hj => by
  have h1 := M.len
  have h2 := M.lenb
  by_cases h : Own (con q i) j
  · rw [M.own j h]; exact C.sm j (by omega)
  · rw [M.other j h]; exact C2.sm j (by omega)
theorem local_main (C : Ctx q i a) (C2 : Ctx q i b) (M : Mix (con q i) a b m) (ha : deadB a = false) (hb : deadB b = false) (hx : PR q (con q i) a x) (hy : PR q (con q i) m y) :
    (deadB x = true ∧ deadB y = true ∧ x = y) ∨ (deadB x = false ∧ deadB y = false ∧ ∀ j, j < a.length → (Own (con q i) j → x.getD j 0 = y.getD j 0) ∧ (¬ Own (con q i) j → x.getD j 0 = a.getD j 0 ∧ y.getD j 0 = b.getD j 0)) := by
  have CM := mix_ctx C C2 M
  have l1 := M.len
  have l2 := M.lenb
  have h256 := C.len256
  have na := deadB_false.1 ha
  have nb := deadB_false.1 hb
  have k16 := C.work.k
  have nm : ∀ j, j < m.length → m.getD j 0 ≠ 0 := fun j hj => by
    by_cases h : Own (con q i) j
    · rw [M.own j h]; exact na j (by omega)
    · rw [M.other j h]; exact nb j (by omega)
  have es : ∀ k, k < (con q i).cells.length → setAt (con q i) m k = setAt (con q i) a k := fun k hk => M.own _ ⟨k, hk, rfl⟩
  have s1 : Sub (con q i) a m := fun k hk s h => by rw [es k hk]; exact h
  have s2 : Sub (con q i) m a := fun k hk s h => by rw [← es k hk]; exact h
  by_cases hA : Alive q (con q i) a
  · have hO := ((alive_iff C).1 hA).2
    obtain ⟨hOM, lost1⟩ := oa_mono CM C s1 hO
    have hAM : Alive q (con q i) m := (alive_iff CM).2 ⟨nm, hOM⟩
    obtain ⟨_, lost2⟩ := oa_mono C CM s2 hOM
    refine .inr ⟨deadB_false.2 fun j hj => ?_, deadB_false.2 fun j hj => ?_, fun j hj => ⟨fun h => ?_, fun h => ?_⟩⟩
    · have hj : j < a.length := by rw [← hx.len]; exact hj
      obtain ⟨s, hs, h1, h2⟩ := hA.left j hj
      exact (tb_ne_zero (hx.live hA j hj).1).2 ⟨s, hs, ((hx.live hA j hj).2 s).2 ⟨h1, h2⟩⟩
    · have hj : j < m.length := by rw [← hy.len]; exact hj
      obtain ⟨s, hs, h1, h2⟩ := hAM.left j hj
      exact (tb_ne_zero (hy.live hAM j hj).1).2 ⟨s, hs, ((hy.live hAM j hj).2 s).2 ⟨h1, h2⟩⟩
    · have em := M.own j h
      obtain ⟨k, hk, rfl⟩ := h
      refine tb_ext (hx.live hA _ hj).1 (hy.live hAM _ (by omega)).1 fun s _ => ?_
      rw [Bool.eq_iff_iff, (hx.live hA _ hj).2, (hy.live hAM _ (by omega)).2, em, LC_at C hk, LC_at CM hk]
      constructor
      · rintro ⟨h1, h2⟩
        exact ⟨h1, fun h3 => h2 (lost1 k hk s h1 h3)⟩
      · rintro ⟨h1, h2⟩
        exact ⟨h1, fun h3 => h2 (lost2 k hk s (by rw [es k hk]; exact h1) h3)⟩
    · have em := M.other j h
      constructor
      · refine tb_ext (hx.live hA j hj).1 ((C.sm j hj).in64 (by omega)) fun s _ => ?_
        rw [Bool.eq_iff_iff, (hx.live hA j hj).2]
        exact ⟨fun h => h.1, fun h1 => ⟨h1, fun ⟨k, hk, e, _⟩ => h ⟨k, hk, e⟩⟩⟩
      · refine tb_ext (hy.live hAM j (by omega)).1 ((C2.sm j (by omega)).in64 (by omega)) fun s _ => ?_
        rw [Bool.eq_iff_iff, (hy.live hAM j (by omega)).2, em]
        exact ⟨fun h => h.1, fun h1 => ⟨h1, fun ⟨k, hk, e, _⟩ => h ⟨k, hk, e⟩⟩⟩
  · have hAM : ¬ Alive q (con q i) m := fun hAM => hA ((alive_iff C).2 ⟨na, (oa_mono C CM s2 ((alive_iff CM).1 hAM).2).1⟩)
    rw [hx.dead hA, hy.dead hAM, l1]
    exact .inl ⟨zeros_dead h256.1, zeros_dead h256.1, rfl⟩
theorem local_end (C : Ctx q i a) (M : Mix (con q i) a b m) {own : List Bool} (hol : own.length = a.length) (hown : ∀ j, own.getD j false = true ↔ Own (con q i) j) (hxl : x.length = a.length) (hyl : y.length = a.length)
    (h : ∀ j, j < a.length → (Own (con q i) j → x.getD j 0 = y.getD j 0) ∧ (¬ Own (con q i) j → x.getD j 0 = a.getD j 0 ∧ y.getD j 0 = b.getD j 0)) : ∀ (k j n : Nat), j + k = a.length → k + 1 ≤ n → lawLocal_m q i a b n (.l3 x y (j : Int) own) = some true
  | 0, j, n, e, hn => by
    obtain ⟨n, rfl⟩ : ∃ k, n = k + 1 := ⟨n - 1, by omega⟩
    show lawLocal_l3 n (lawLocal_m q i a b n) q i a b x y (j : Int) own = _
    unfold lawLocal_l3
    rw [decide_eq_false (by omega), cond_false]
  | k + 1, j, n, e, hn => by
    obtain ⟨n, rfl⟩ : ∃ k, n = k + 1 := ⟨n - 1, by omega⟩
    have h256 := C.len256
    have l2 := M.lenb
    have hj : j < a.length := by omega
    have next := local_end C M hol hown hxl hyl h k (j + 1) n (by omega) (by omega)
    have r1 : R64 ((j : Int) + 1) := R64_iff.2 ⟨by omega, by omega⟩
    obtain ⟨h1, h2⟩ := h j hj
    show lawLocal_l3 n (lawLocal_m q i a b n) q i a b x y (j : Int) own = _
    unfold lawLocal_l3
    simp only [Int.toNat_natCast, Nat.zero_add]
    rw [decide_eq_true (by omega), cond_true, if_pos ⟨⟨by omega, by omega⟩, by omega⟩]
    cases ho : own.getD j false
    · have hno : ¬ Own (con q i) j := fun h => by rw [(hown j).2 h] at ho; cases ho
      obtain ⟨h3, h4⟩ := h2 hno
      have e1 : (x.getD j 0 != a.getD j 0) = false := by rw [h3]; simp
      have e2 : (y.getD j 0 != b.getD j 0) = false := by rw [h4]; simp
      rw [cond_false, if_pos ⟨by omega, by omega⟩, e1, cond_false, if_pos ⟨⟨by omega, by omega⟩, by omega, by omega⟩, e2, cond_false, if_pos r1]
      exact next
    · have h3 := h1 ((hown j).1 ho)
      have e1 : (x.getD j 0 != y.getD j 0) = false := by rw [h3]; simp
      rw [cond_true, if_pos ⟨⟨by omega, by omega⟩, by omega, by omega⟩, e1, cond_false, if_pos r1]
      exact next
theorem local_rest (C : Ctx q i a) (C2 : Ctx q i b) (ha : deadB a = false) (hb : deadB b = false) (hx : PR q (con q i) a x) : Ev (fun n => lawLocal_m q i a b n (.l1 x 0 (List.replicate a.length false))) true := by
  have L : (1000000000000 : Nat) = LIM := rfl
  have lb : (256 : Nat) ≤ LB := by decide
  have h256 := C.len256
  have la := C.len
  have lb' := C2.len
  have hi : 0 ≤ i ∧ i < (q.cons.length : Int) := ⟨C.i0, C.i1⟩
  have W := C.work
  have hlen := W.len
  have hc : q.cons.getD i.toNat default = con q i := rfl
  have z : ∀ j : Nat, (List.replicate a.length false).getD j false = false := fun j => by
    rw [List.getD_eq_getElem?_getD, List.getElem?_replicate]; split <;> rfl
  -- the cells of the constraint are marked
  have A : ∀ n, ∃ own : List Bool, (own.length = a.length ∧ ∀ j, own.getD j false = true ↔ Own (con q i) j) ∧ lawLocal_m q i a b (n + (con q i).cells.length) (.l1 x 0 (List.replicate a.length false)) = lawLocal_m q i a b n (.l1 x ((con q i).cells.length : Int) own) := fun n => by
    obtain ⟨own, e, h1, h2⟩ := loopE (fun n (s : List Bool) k => lawLocal_m q i a b n (.l1 x k s)) (con q i).cells.length 0
      (fun k s => s.length = a.length ∧ ∀ j, s.getD j false = true ↔ ∃ l, l < k ∧ ((con q i).cells.getD l 0).toNat = j) (fun n k s _ hk hI => by
        obtain ⟨h1, h2⟩ := hI
        have hcell := W.cells k hk
        show ∃ s', lawLocal_l1 n (lawLocal_m q i a b n) q i a b x (k : Int) s = _ ∧ _
        unfold lawLocal_l1
        simp only [hc, Int.toNat_natCast, Nat.zero_add]
        rw [decide_eq_true (by omega), cond_true, if_pos ⟨⟨by omega, by omega⟩, hcell, by omega, R64_iff.2 ⟨by omega, by omega⟩⟩]
        refine ⟨_, rfl, by rw [List.length_set]; exact h1, fun j => ?_⟩
        rw [bgetD_set (by omega)]
        constructor
        · intro h
          by_cases e : j = ((con q i).cells.getD k 0).toNat
          · exact ⟨k, by omega, e.symm⟩
          · rw [if_neg e] at h
            obtain ⟨l, h3, h4⟩ := (h2 j).1 h
            exact ⟨l, by omega, h4⟩
        · rintro ⟨l, h3, h4⟩
          by_cases e : j = ((con q i).cells.getD k 0).toNat
          · rw [if_pos e]
          · rw [if_neg e]
            refine (h2 j).2 ⟨l, ?_, h4⟩
            rcases Nat.lt_succ_iff_lt_or_eq.1 h3 with h3 | rfl
            · exact h3
            · exact absurd h4.symm e) (con q i).cells.length 0 n (List.replicate a.length false) (by omega) (by omega) ⟨List.length_replicate, fun j => by rw [z]; exact ⟨fun h => (by cases h), fun ⟨l, h, _⟩ => absurd h (Nat.not_lt_zero l)⟩⟩
    exact ⟨own, ⟨h1, h2⟩, e⟩
  -- the cells are mixed
  have B : ∀ (own : List Bool), own.length = a.length → (∀ j, own.getD j false = true ↔ Own (con q i) j) → ∀ n, ∃ m, Mix (con q i) a b m ∧ lawLocal_m q i a b (n + a.length) (.l2 x 0 own b) = lawLocal_m q i a b n (.l2 x (a.length : Int) own m) := fun own hol hown n => by
    obtain ⟨m, e, h1, h2, h3⟩ := loopE (fun n (s : List Int) k => lawLocal_m q i a b n (.l2 x k own s)) a.length 0
      (fun k s => s.length = a.length ∧ (∀ j, j < k → s.getD j 0 = if own.getD j false = true then a.getD j 0 else b.getD j 0) ∧ ∀ j, k ≤ j → s.getD j 0 = b.getD j 0) (fun n k s _ hk hI => by
        obtain ⟨h1, h2, h3⟩ := hI
        have r1 : R64 ((k : Int) + 1) := R64_iff.2 ⟨by omega, by omega⟩
        show ∃ s', lawLocal_l2 n (lawLocal_m q i a b n) q i a b x (k : Int) own s = _ ∧ _
        unfold lawLocal_l2
        simp only [Int.toNat_natCast, Nat.zero_add, List.length_nil]
        rw [decide_eq_true (by omega), cond_true, if_pos ⟨⟨by omega, by omega⟩, by omega⟩]
        cases ho : own.getD k false
        · rw [cond_false, if_pos r1]
          refine ⟨s, rfl, h1, fun j hj => ?_, fun j hj => h3 j (by omega)⟩
          rcases Nat.lt_succ_iff_lt_or_eq.1 hj with hj | rfl
          · exact h2 j hj
          · rw [ho, if_neg (by decide)]; exact h3 j (by omega)
        · rw [cond_true, if_pos ⟨⟨by omega, by omega⟩, by omega, r1⟩]
          refine ⟨_, rfl, by rw [List.length_set]; exact h1, fun j hj => ?_, fun j hj => ?_⟩
          · by_cases e : k = j
            · subst e; rw [getD_set_self (by omega), ho, if_pos rfl]
            · rw [getD_set_ne e]; exact h2 j (by omega)
          · rw [getD_set_ne (by omega)]; exact h3 j (by omega)) a.length 0 n b (by omega) (by omega) ⟨by omega, fun j hj => absurd hj (Nat.not_lt_zero j), fun j _ => rfl⟩
    refine ⟨m, ⟨h1, by omega, fun j hj => ?_, fun j hj => ?_⟩, e⟩
    · have h4 := (hown j).2 hj
      have h5 : j < a.length := by
        obtain ⟨k, hk, e⟩ := hj
        have := W.cells k hk
        omega
      rw [h2 j h5, if_pos h4]
    · by_cases h5 : j < a.length
      · rw [h2 j h5, if_neg fun h => hj ((hown j).1 h)]
      · rw [List.getD_eq_getElem?_getD, List.getElem?_eq_none (by omega), List.getD_eq_getElem?_getD, List.getElem?_eq_none (by omega)]
  obtain ⟨own, ⟨hol, hown⟩, _⟩ := A 0
  obtain ⟨m, M, _⟩ := B own hol hown 0
  have CM := mix_ctx C C2 M
  obtain ⟨y, ⟨N, hy1⟩, hy2⟩ := prune_ok CM
  have xl := hx.len
  have yl := hy2.len
  have ml := M.len
  refine ⟨N + (con q i).cells.length + 2 * a.length + 600, fun n hn => ?_⟩
  obtain ⟨n, rfl⟩ : ∃ k, n = k + (a.length + 1 + (con q i).cells.length) := ⟨n - (a.length + 1 + (con q i).cells.length), by omega⟩
  obtain ⟨own', ⟨hol', hown'⟩, e1⟩ := A (n + a.length + 1)
  have eo : own' = own := ext_getD (by omega) fun j _ => by rw [Bool.eq_iff_iff, hown, hown']
  subst eo
  obtain ⟨m', M', e2⟩ := B own' hol hown n
  have em : m' = m := by
    refine List.ext_getElem (by rw [M'.len, M.len]) fun j h1 h2 => ?_
    have g1 : m'.getD j 0 = m'[j] := by simp [h1]
    have g2 : m.getD j 0 = m[j] := by simp [h2]
    rw [← g1, ← g2]
    by_cases h : Own (con q i) j
    · rw [M'.own j h, M.own j h]
    · rw [M'.other j h, M.other j h]
  subst em
  show lawLocal_m q i a b (n + (a.length + 1 + (con q i).cells.length)) (.l1 x 0 (List.replicate a.length false)) = _
  rw [show n + (a.length + 1 + (con q i).cells.length) = n + a.length + 1 + (con q i).cells.length by omega, e1]
  show lawLocal_l1 (n + a.length) (lawLocal_m q i a b (n + a.length)) q i a b x ((con q i).cells.length : Int) own' = _
  unfold lawLocal_l1
  simp only [hc]
  rw [decide_eq_false (by omega), cond_false, if_pos ⟨trivial, ⟨trivial, rfl⟩, by rw [← L]; simp only [List.length_nil]; omega⟩, List.nil_append, e2]
  obtain ⟨n, rfl⟩ : ∃ k, n = k + 1 := ⟨n - 1, by omega⟩
  show lawLocal_l2 n (lawLocal_m q i a b n) q i a b x (a.length : Int) own' m' = _
  unfold lawLocal_l2
  have hy1 : pruneP n q i m' = some (y, 0) := hy1 n (by omega)
  have b1 : ((x.length : Int) != (a.length : Int)) = false := by rw [xl]; simp
  have b2 : ((y.length : Int) != (a.length : Int)) = false := by rw [yl, ml]; simp
  rw [decide_eq_false (by omega), cond_false, if_pos (by simp only [List.length_nil]; omega), hy1, Option.bind_some]
  simp only [bne_self_eq_false, cond_false, b1, b2]
  rw [isDead_eq (by omega) (by omega), Option.bind_some, isDead_eq (by omega) (by omega), Option.bind_some]
  rcases local_main C C2 M ha hb hx hy2 with ⟨d1, d2, e⟩ | ⟨d1, d2, h⟩
  · rw [d1, d2]
    rw [show (!(true == true)) = false from rfl, cond_false, Option.bind_some, cond_true, same_eq (by omega) (by omega), decide_eq_true e]; rfl
  · rw [d1, d2]
    rw [show (!(false == false)) = false from rfl, cond_false, Option.bind_some, cond_false]
    exact local_end C M hol hown xl (by omega) h a.length 0 n (by omega) (by omega)
theorem lawLocal_true (q : ProbD) (i : Int) (a b : List Int) (hF : Fit q) (hla : a.length ≤ LB) (hlb : b.length ≤ LB) : Ev (fun n => lawLocal n q i a b) true := by
  refine law_start (q := q) (pos := a) (f := fun n => bif (decide ((b.length : Int) > 20)) then some true else
       (pruneP n q i a).bind fun y3 => (pruneP n q i b).bind fun y4 => bif (y3.2 != 0) then some true else bif (y4.2 != 0) then some true else
           (isDead n a).bind fun y5 => bif y5 then some true else (isDead n b).bind fun y6 => bif y6 then some true else
               if (((a.length : Int) : Int) = (a.length : Int) ∧ 0 ≤ (a.length : Int) ∧ ((a.length : Int) : Int) ≤ 1000000000000) ∧ (0 ≤ i ∧ i < (q.cons.length : Int)) then
                lawLocal_m q i a b n (.l1 y3.1 0 (List.replicate a.length false))
               else none) (fun n => rfl) ?_
  by_cases h20 : (b.length : Int) > 20
  · exact Ev.now fun n => by rw [decide_eq_true h20]; rfl
  refine Ev.eq ?_ (fun n => by rw [decide_eq_false h20, cond_false])
  by_cases ha : checkV q i a = 0
  · have C := Ctx.of hF ha
    obtain ⟨x, hx1, hx2⟩ := prune_ok C
    refine Ev.bind hx1 ?_
    by_cases hb : checkV q i b = 0
    · have C2 := Ctx.of hF hb
      obtain ⟨y, hy1, hy2⟩ := prune_ok C2
      refine Ev.bind hy1 ?_
      have h256 := C.len256
      have eD : ∀ (l : List Int), l.length ≤ LB → Ev (fun n => isDead n l) (deadB l) := fun l hl => ⟨l.length + 1, fun n hn => isDead_eq hl (by omega)⟩
      refine Ev.eq (f := fun n => (isDead n a).bind fun y5 => bif y5 then some true else (isDead n b).bind fun y6 => bif y6 then some true else
               if (((a.length : Int) : Int) = (a.length : Int) ∧ 0 ≤ (a.length : Int) ∧ ((a.length : Int) : Int) ≤ 1000000000000) ∧ (0 ≤ i ∧ i < (q.cons.length : Int)) then
                lawLocal_m q i a b n (.l1 x 0 (List.replicate a.length false))
               else none) ?_ (fun n => rfl)
      refine Ev.bind (eD a hla) ?_
      cases hda : deadB a
      · refine Ev.eq (f := fun n => (isDead n b).bind fun y6 => bif y6 then some true else
               if (((a.length : Int) : Int) = (a.length : Int) ∧ 0 ≤ (a.length : Int) ∧ ((a.length : Int) : Int) ≤ 1000000000000) ∧ (0 ≤ i ∧ i < (q.cons.length : Int)) then
                lawLocal_m q i a b n (.l1 x 0 (List.replicate a.length false))
               else none) ?_ (fun n => rfl)
        refine Ev.bind (eD b hlb) ?_
        cases hdb : deadB b
        · refine (local_rest C C2 hda hdb hx2).eq fun n => ?_
          rw [cond_false, if_pos ⟨⟨rfl, by omega, by omega⟩, C.i0, C.i1⟩]
        · exact Ev.now fun n => rfl
      · exact Ev.now fun n => rfl
    · obtain ⟨e, he, h1⟩ := prune_bad hF hlb hb
      refine Ev.bind h1 (Ev.now fun n => ?_)
      have : (e != 0) = true := by simpa using he
      show (bif ((0 : Int) != 0) then some true else bif (e != 0) then some true else _) = some true
      rw [this]; rfl
  · obtain ⟨e, he, h1⟩ := prune_bad hF hla ha
    refine Ev.bind h1 ?_
    have hne : (e != 0) = true := by simpa using he
    obtain ⟨r, h2, _⟩ := prune_ev (i := i) hF hlb
    refine Ev.bind h2 (Ev.now fun n => ?_)
    show (bif (e != 0) then some true else _) = some true
    rw [hne]; rfl
end
end Go.Proofs.YtekkngkphejfcaaDoor
namespace Go.Proofs.YtekkngkphejfcaaDoor.pruneLocal
open Go.ChangeShapes Go.WideShapes Go.ChangeAt Go.RowKit
set_option maxRecDepth 100000 in
theorem contract (H : Type) (enc : TypeId × Value → H) (W : World) (base : Nat) (args : Array Value) (ds gs : List (DataW H)) (before : List MemPlace)
    (hval : ∀ (j : Nat) t v, Tryd.f4.params[j]? = some t → args[j]? = some v → Value.okWide Tryd.prog W .any base t v)
    (hW : DataW.Whole enc Tryd.prog Tryd.f4.params.toList Rows.pruneLocalSpec.vars false W args.toList ds gs before)
    (hsz : (DataW.weightsEach Tryd.prog Tryd.f4.params.toList ds).all (· ≤ reachBytes) = true) (hL : laidMetH Tryd.prog Rows.pruneLocalRow.laid W) :
    Calls Tryd.prog 4 args W fun e W' => ∃ v, e = .returned v ∧ Rows.pruneLocalSpec.post enc Tryd.prog Tryd.f4 false true false false W args v W' := by
  have hW' := hW
  obtain ⟨p, q, hA0, hV, rfl, hfz, hnd⟩ := hW
  have hA : DataW.TrodAll enc Tryd.prog W 0 (fun _ => true) true Tryd.f4.params.toList args.toList ds p := hA0
  rw [Tryd.params4] at hA
  obtain ⟨v0, vs0, d0, ds0, p0, q0, hargs, rfl, rfl, _, r0⟩ := trodAll_cons hA
  obtain ⟨v1, vs1, d1, ds1, p1, q1, rfl, rfl, rfl, _, r1⟩ := trodAll_cons r0
  obtain ⟨v2, vs2, d2, ds2, p2, q2, rfl, rfl, rfl, _, r2⟩ := trodAll_cons r1
  obtain ⟨v3, vs3, d3, ds3, p3, q3, rfl, rfl, rfl, _, r3⟩ := trodAll_cons r2
  obtain ⟨rfl, rfl, rfl⟩ := trodAll_nil r3
  obtain ⟨rfl, rfl⟩ := trodVars_none hV
  refine law_calls (Γ := GG) (s := Rows.pruneLocalSpec) (tb := 4) (dv := fun y : ProbD × Int × List Int × List Int × Unit => [.agg 5 (L1 (probC y.1)), .int .i64 y.2.1, .ints y.2.2.1, .ints y.2.2.2.1]) laidOutP ?_ ?_ ?_ hval hW' rfl rfl (by kernel_rfl) Tryd.underlying4 hsz (table_gi hL)
  · rw [Tryd.params4]
    intro t ht
    simp only [Array.toList, List.mem_cons, List.not_mem_nil, or_false] at ht
    rcases ht with rfl | rfl | rfl | rfl
    · exact ⟨by kernel_rfl, Nat.le_of_ble_eq_true (by kernel_rfl)⟩
    · exact ⟨by kernel_rfl, Nat.le_of_ble_eq_true (by kernel_rfl)⟩
    · exact ⟨by kernel_rfl, Nat.le_of_ble_eq_true (by kernel_rfl)⟩
    · exact ⟨by kernel_rfl, Nat.le_of_ble_eq_true (by kernel_rfl)⟩
  · rw [Tryd.params4]
    exact ArgsV.cons rvProb (ArgsV.cons rvInt (ArgsV.cons rvInts (ArgsV.cons rvInts ArgsV.nil)))
  · intro w y hy
    obtain ⟨n, hn⟩ := lawLocal_true y.1 y.2.1 y.2.2.1 y.2.2.2.1 (Fit.of (hy 0)) (ints_le (hy 2)) (ints_le (hy 3))
    exact lawLocal_ok (hn n (Nat.le_refl _))
theorem laid_met (os : Os) : laidMet Tryd.prog Rows.pruneLocalRow.laid ((laidWorld os).forCall (fun _ _ => 0) ⟨#[], #[prob0, .int .i64 0, .slice none 0 0, .slice none 0 0], []⟩).memory :=
  laidMet_of_run' 70 (by kernel_rfl) (by kernel_rfl)
theorem reads (os : Os) {H : Type} (enc : TypeId × Value → H) : ∃ places, DataW.whole enc Tryd.prog ((laidWorld os).forCall (fun _ _ => 0) ⟨#[], #[prob0, .int .i64 0, .slice none 0 0, .slice none 0 0], []⟩).memory Tryd.f4.params.toList Rows.pruneLocalSpec.vars false #[prob0, Value.int .i64 0, Value.slice none 0 0, Value.slice none 0 0].toList 16 = some ([.agg [.lit (.int .i64 0), .lit (.int .i64 0), .nil, .nil, .nil], .lit (.int .i64 0), .nil, .nil], [], places) :=
  ⟨[], by kernel_rfl⟩
set_option maxRecDepth 100000 in
theorem lifted (os : Os) (started : os.Started) (H : Type) (enc : TypeId × Value → H) (F : Stop.Interp) :
    ReturnsInHanded {} Tryd.checked os 4 .any ((OpenSpec.ofChange Rows.pruneLocalSpec).preRow enc Tryd.prog Tryd.f4 Rows.pruneLocalRow.domain false Rows.pruneLocalRow.laid) (((OpenSpec.ofChange Rows.pruneLocalSpec).at F).post enc Tryd.prog Tryd.f4 false true false false) := by
  obtain ⟨places, hx⟩ := reads os enc
  refine returnsInHanded_of_row (C := Tryd.checked) (s := OpenSpec.ofChange Rows.pruneLocalSpec) own started (by kernel_rfl) Tryd.func4
    (witness_row_at (enc := enc) (C := Tryd.checked) false (laidWorld os) #[prob0, .int .i64 0, .slice none 0 0, .slice none 0 0] rfl (by kernel_rfl) (by kernel_rfl) (by kernel_rfl)
      (OpenSpec.preRow_of_cond 16 hx (by kernel_rfl) (fun k hk => by cases hk) (by kernel_rfl) (laid_met os))) ?_
  intro W base args ds gs before hval hW _ _ hsz hL _ _
  refine contract H enc W base args ds gs before hval hW ?_ hL
  have h1 := hW
  obtain ⟨p, q, _, hV, _⟩ := h1
  obtain ⟨rfl, _⟩ := trodVars_none hV
  have e : (DataW.weightsEach Tryd.prog (Tryd.f4.params.toList ++ []) (ds ++ [])).all (· ≤ reachBytes) = true := hsz
  rw [List.append_nil, List.append_nil] at e
  exact e
theorem said : Rows.PruneLocalSaid :=
  OpenClaim.holds_of_cond 4 Tryd.f4 rfl rfl rfl rfl rfl rfl rfl ⟨rfl, rfl, rfl, rfl, rfl⟩ rfl rfl rfl rfl rfl (by kernel_rfl) Tryd.func4 (by kernel_rfl)
    (of_decide_eq_true (by kernel_rfl)) (by unfold Func.isWrapper; first | (rw [if_pos (by decide +kernel)]; kernel_rfl) | (rw [if_neg (by decide +kernel)]; exact ⟨rfl, rfl⟩))
    (fun os started H enc _ F => by rw [OpenClaim.pre_eq_preRow]; exact lifted os started H enc F)
theorem plain (f : FuncId) (fn : Func) (hf : Tryd.pinned.checked.prog.funcNamed "gridwright/gridwrightlaw26.PruneLocal" = some f) (hfn : Tryd.pinned.checked.prog.funcs[f]? = some fn) :
    false = Tryd.pinned.checked.prog.looks [] ∧ ∀ (j : Nat) t, fn.params[j]? = some t → Tryd.pinned.checked.prog.wantsStandIn t = false := by
  obtain rfl : f = 4 := Option.some.inj ((show Tryd.prog.funcNamed "gridwright/gridwrightlaw26.PruneLocal" = some 4 by kernel_rfl).symm.trans hf) |>.symm
  obtain rfl : fn = Tryd.f4 := (Option.some.inj (Tryd.func4.symm.trans hfn)).symm
  refine ⟨by kernel_rfl, fun j t ht => ?_⟩
  rw [Tryd.params4] at ht
  have ht := Array.mem_of_getElem? ht
  simp only [Array.mem_def, Array.toList, List.mem_cons, List.not_mem_nil, or_false] at ht
  rcases ht with rfl | rfl | rfl | rfl
  · exact (show Tryd.prog.wantsStandIn 26 = false by kernel_rfl)
  · exact (show Tryd.prog.wantsStandIn 3 = false by kernel_rfl)
  · exact (show Tryd.prog.wantsStandIn 22 = false by kernel_rfl)
  · exact (show Tryd.prog.wantsStandIn 22 = false by kernel_rfl)
end Go.Proofs.YtekkngkphejfcaaDoor.pruneLocal
namespace Go.Proofs.YtekkngkphejfcaaDoor
open Go.ChangeShapes Go.WideShapes Go.ChangeAt Go.RowKit
/-- The card. -/
theorem pruneLocal_card : Rows.PruneLocalCardSaid :=
  Claim7.holds_tied_plain_at .later [] _ _ _ _ pruneLocal.said (fun _ h => by cases h) (by kernel_rfl) (fun _ h => by cases h) pruneLocal_row_tie rfl ⟨rfl, rfl⟩ (by kernel_rfl) rfl pruneLocal.plain (by kernel_rfl)
end Go.Proofs.YtekkngkphejfcaaDoor
