/- PruneMonotone: what the meet of two positions becomes is within what each of them becomes, and what a position becomes is within it, for every problem, every index and every two positions. -/
import Derived.Test.YtekkngkphejfcaaDoorPkF
set_option linter.all false
namespace Go.Proofs.YtekkngkphejfcaaDoor
open Go.RowKit
/-- A constraint that leaves each of its cells something. -/
structure OA (q : ProbD) (c : ConsD) (p : List Int) : Prop where
  nz : ∀ k, k < c.cells.length → setAt c p k ≠ 0
  ok : okC q c p
  left : ∀ k, k < c.cells.length → ∃ s, tb (setAt c p k) s = true ∧ ¬ lostC q c p k s
theorem countP_le {α : Type} {f g : α → Bool} : ∀ (l : List α), (∀ x ∈ l, f x = true → g x = true) → l.countP f ≤ l.countP g
  | [], _ => Nat.le_refl _
  | x :: l, h => by
    have h1 := countP_le l fun y hy => h y (List.mem_cons_of_mem _ hy)
    have h2 := h x List.mem_cons_self
    rw [List.countP_cons, List.countP_cons]
    cases hf : f x
    · simp only [Bool.false_eq_true, if_false]; omega
    · rw [h2 hf]; simp only [if_true]; omega
theorem countP_lt {α : Type} {f g : α → Bool} {a : α} (hf : f a = false) (hg : g a = true) : ∀ (l : List α), (∀ x ∈ l, f x = true → g x = true) → a ∈ l → l.countP f + 1 ≤ l.countP g
  | [], _, h => by cases h
  | x :: l, h, ha => by
    rw [List.countP_cons, List.countP_cons]
    rcases List.mem_cons.1 ha with rfl | ha
    · have h1 := countP_le l fun y hy => h y (List.mem_cons_of_mem _ hy)
      rw [hf, hg, if_pos rfl]
      simp only [Bool.false_eq_true, if_false]; omega
    · have h1 := countP_lt hf hg l (fun y hy => h y (List.mem_cons_of_mem _ hy)) ha
      have h2 := h x List.mem_cons_self
      cases hx : f x
      · simp only [Bool.false_eq_true, if_false]; omega
      · rw [h2 hx]; simp only [if_true]; omega
theorem cnt_mono {f g : Nat → Bool} {m : Nat} (h : ∀ a, a < m → f a = true → g a = true) : cnt f m ≤ cnt g m := by
  unfold cnt
  have := countP_le (f := f) (g := g) (List.range m) fun x hx => h x (List.mem_range.1 hx)
  omega
theorem cnt_strict {f g : Nat → Bool} {m a : Nat} (h : ∀ a, a < m → f a = true → g a = true) (ha : a < m) (hf : f a = false) (hg : g a = true) : cnt f m + 1 ≤ cnt g m := by
  unfold cnt
  have := countP_lt hf hg (List.range m) (fun x hx => h x (List.mem_range.1 hx)) (List.mem_range.2 ha)
  omega
theorem single_uniq {k : Nat} {x : Int} (hx : Sm k x) (hk : k ≤ 16) (h : single x = true) {s t : Nat} (hs : tb x s = true) (ht : tb x t = true) : s = t := by
  have h62 := pow_le62 (k := k) (Nat.le_trans hk (by decide))
  obtain ⟨m, rfl⟩ := Int.eq_ofNat_of_zero_le hx.1
  have hlt : m < 18446744073709551616 := by have := hx.2; omega
  have lo : ∀ {u : Nat}, tb (m : Int) u = true → u < 64 := fun {u} hu => Nat.lt_of_not_le fun h => by rw [tb_ge h] at hu; cases hu
  have h0 : m ≠ 0 := by
    rintro rfl
    exact tb0 hs
  have e : m &&& (m - 1) = 0 := by
    unfold single at h
    rw [beq_iff_eq] at h
    apply Nat.eq_of_testBit_eq
    intro u
    rw [Nat.zero_testBit, Nat.testBit_and]
    rcases Nat.lt_or_ge u 64 with hu | hu
    · have h2 := (tb_eq_zero (bits_in .and _ _)).1 h u hu
      have e1 : (m : Int) - 1 = ((m - 1 : Nat) : Int) := by omega
      rw [tb_and, e1, tb_nat _ _ hu, tb_nat _ _ hu] at h2
      exact h2
    · rw [Nat.testBit_lt_two_pow (Nat.lt_of_lt_of_le hlt (Nat.pow_le_pow_right (n := 2) (by decide) hu)), Bool.false_and]
  have S := symsOf_step m hlt h0
  rw [e, symsOf_zero] at S
  have mem : ∀ {u : Nat}, tb (m : Int) u = true → u ∈ symsOf m := fun {u} hu => by
    unfold symsOf
    rw [List.mem_filter, List.mem_range]
    exact ⟨lo hu, by rw [← tb_nat m u (lo hu)]; exact hu⟩
  have h1 := mem hs
  have h2 := mem ht
  rw [S, List.mem_singleton] at h1 h2
  rw [h1, h2]
section
variable {q : ProbD} {i : Int} {p p' : List Int}
theorem in_set {c : ConsD} {x : Int} (h : bits .andNot .i64 x c.set = 0) {s : Nat} (hs : tb x s = true) : tb c.set s = true := by
  have h64 : s < 64 := Nat.lt_of_not_le fun h => by rw [tb_ge h] at hs; cases hs
  have := (tb_eq_zero (bits_in .andNot _ _)).1 h s h64
  rw [tb_andNot, hs, Bool.true_and, Bool.not_eq_false'] at this
  exact this
theorem andNot_mono {c : ConsD} {x x' : Int} (h : ∀ s, tb x' s = true → tb x s = true) (hx : bits .andNot .i64 x c.set = 0) : bits .andNot .i64 x' c.set = 0 :=
  (tb_eq_zero (bits_in .andNot _ _)).2 fun s hs => by
    rw [tb_andNot]
    cases h1 : tb x' s with
    | false => rfl
    | true => rw [in_set hx (h s h1)]; rfl
theorem and_mono {c : ConsD} {x x' : Int} (h : ∀ s, tb x' s = true → tb x s = true) (hx : bits .and .i64 x' c.set ≠ 0) : bits .and .i64 x c.set ≠ 0 := by
  obtain ⟨s, hs, h1⟩ := (tb_ne_zero (bits_in .and _ _)).1 hx
  rw [tb_and, Bool.and_eq_true] at h1
  exact (tb_ne_zero (bits_in .and _ _)).2 ⟨s, hs, by rw [tb_and, h s h1.1, h1.2]; rfl⟩
theorem and_of {c : ConsD} {x : Int} {s : Nat} (h1 : tb x s = true) (h2 : tb c.set s = true) : bits .and .i64 x c.set ≠ 0 := by
  have h64 : s < 64 := Nat.lt_of_not_le fun h => by rw [tb_ge h] at h1; cases h1
  exact (tb_ne_zero (bits_in .and _ _)).2 ⟨s, h64, by rw [tb_and, h1, h2]; rfl⟩
theorem andNot_of {c : ConsD} {x : Int} {s : Nat} (h1 : tb x s = true) (h2 : tb c.set s = false) : bits .andNot .i64 x c.set ≠ 0 := by
  have h64 : s < 64 := Nat.lt_of_not_le fun h => by rw [tb_ge h] at h1; cases h1
  exact (tb_ne_zero (bits_in .andNot _ _)).2 ⟨s, h64, by rw [tb_andNot, h1, h2]; rfl⟩
/-- The sets of the constraint's cells are within those of another position. -/
def Sub (c : ConsD) (p' p : List Int) : Prop := ∀ k, k < c.cells.length → ∀ s, tb (setAt c p' k) s = true → tb (setAt c p k) s = true
theorem diff_mono {c : ConsD} {k : Nat} (W : Work c k p) (hS : Sub c p' p) (hin : ∀ a, a < c.cells.length → In64 (setAt c p' a)) (hnz : ∀ a, a < c.cells.length → setAt c p' a ≠ 0) {a s : Nat} (h : diffD c p a s) : diffD c p' a s := by
  obtain ⟨b, hb, hne, h1, h2⟩ := h
  have hx := W.at hb
  have e : setAt c p' b = setAt c p b := by
    refine tb_ext (hin b hb) (hx.in64 (by have := W.k; omega)) fun t _ => ?_
    obtain ⟨u, _, hu⟩ := (tb_ne_zero (hin b hb)).1 (hnz b hb)
    have hus : u = s := single_uniq hx W.k h1 (hS b hb u hu) h2
    subst hus
    cases ht : tb (setAt c p b) t with
    | true =>
      have : t = u := single_uniq hx W.k h1 ht h2
      subst this
      exact hu
    | false =>
      cases ht' : tb (setAt c p' b) t with
      | false => rfl
      | true => rw [hS b hb t ht'] at ht; cases ht
  refine ⟨b, hb, hne, ?_, ?_⟩
  · rw [e]; exact h1
  · rw [e]; exact h2
theorem must_mono {c : ConsD} (hS : Sub c p' p) {a : Nat} (ha : a < c.cells.length) (h : must c p a = true) : must c p' a = true := by
  unfold must at h ⊢
  rw [beq_iff_eq] at h ⊢
  exact andNot_mono (hS a ha) h
theorem may_mono {c : ConsD} (hS : Sub c p' p) (hin : ∀ a, a < c.cells.length → In64 (setAt c p' a)) (hnz : ∀ a, a < c.cells.length → setAt c p' a ≠ 0) {a : Nat} (ha : a < c.cells.length) (h : may c p' a = true) : may c p a = true := by
  unfold may at h ⊢
  rw [Bool.or_eq_true, bne_iff_ne] at h ⊢
  right
  rcases h with h | h
  · unfold must at h
    rw [beq_iff_eq] at h
    obtain ⟨u, _, hu⟩ := (tb_ne_zero (hin a ha)).1 (hnz a ha)
    exact and_of (hS a ha u hu) (in_set h hu)
  · exact and_mono (hS a ha) h
theorem count_mono {c : ConsD} (hS : Sub c p' p) (hin : ∀ a, a < c.cells.length → In64 (setAt c p' a)) (hnz : ∀ a, a < c.cells.length → setAt c p' a ≠ 0) (hok : countOk c p' = true) :
    countOk c p = true ∧ ∀ a s, a < c.cells.length → tb (setAt c p' a) s = true → countX c p a s = true → countX c p' a s = true := by
  have m1 := cnt_mono (f := must c p) (g := must c p') (m := c.cells.length) fun a ha => must_mono hS ha
  have m2 := cnt_mono (f := may c p') (g := may c p) (m := c.cells.length) fun a ha => may_mono hS hin hnz ha
  unfold countOk at hok ⊢
  rw [Bool.and_eq_true, Bool.not_eq_true', Bool.not_eq_true', decide_eq_false_iff_not, decide_eq_false_iff_not] at hok ⊢
  refine ⟨⟨by omega, by omega⟩, fun a s ha hs h => ?_⟩
  unfold countX at h ⊢
  rw [Bool.or_eq_true, Bool.and_eq_true, Bool.and_eq_true, Bool.and_eq_true, Bool.and_eq_true, beq_iff_eq, beq_iff_eq, bne_iff_ne, bne_iff_ne, Bool.not_eq_true'] at h ⊢
  rcases h with ⟨⟨h1, h2⟩, h3⟩ | ⟨⟨h1, h2⟩, h3⟩
  · refine .inl ⟨⟨by omega, fun h4 => ?_⟩, h3⟩
    have := cnt_strict (f := must c p) (g := must c p') (m := c.cells.length) (a := a) (fun a ha => must_mono hS ha) ha (by unfold must; exact beq_eq_false_iff_ne.2 h2) (by unfold must; exact beq_iff_eq.2 h4)
    omega
  · refine .inr ⟨⟨by omega, fun h4 => ?_⟩, h3⟩
    have := cnt_strict (f := may c p') (g := may c p) (m := c.cells.length) (a := a) (fun a ha => may_mono hS hin hnz ha) ha
      (by
        unfold may must
        rw [Bool.or_eq_false_iff, beq_eq_false_iff_ne, bne_eq_false_iff_eq]
        exact ⟨andNot_of hs h3, h4⟩) (by unfold may; rw [Bool.or_eq_true, bne_iff_ne]; exact .inr h2)
    omega
/-- Sums over cells. -/
theorem tot_mono {f g : Nat → Int} : ∀ {m : Nat}, (∀ a, a < m → f a ≤ g a) → tot f m ≤ tot g m ∧ ∀ a, a < m → tot f m - f a ≤ tot g m - g a
  | 0, _ => ⟨Int.le_refl _, fun a ha => absurd ha (Nat.not_lt_zero a)⟩
  | m + 1, h => by
    obtain ⟨h1, h2⟩ := tot_mono (m := m) fun a ha => h a (by omega)
    have hm := h m (by omega)
    have e : ∀ f : Nat → Int, tot f (m + 1) = tot f m + f m := fun f => rfl
    rw [e, e]
    refine ⟨by omega, fun a ha => ?_⟩
    rcases Nat.lt_succ_iff_lt_or_eq.1 ha with ha | rfl
    · have := h2 a ha; omega
    · omega
theorem lo_ge {n : Int} : ∀ (l : List Int) (a : Int), n ≤ l.foldl (loF q) a ↔ n ≤ a ∧ ∀ e ∈ l, n ≤ q.values.getD e.toNat 0
  | [], a => by simp
  | e :: l, a => by
    rw [List.foldl_cons, lo_ge l]
    unfold loF
    simp only [List.mem_cons, forall_eq_or_imp]
    split <;> constructor <;> rintro ⟨h1, h2⟩
    · exact ⟨by omega, h1, h2⟩
    · exact ⟨h2.1, h2.2⟩
    · exact ⟨h1, by omega, h2⟩
    · exact ⟨h1, h2.2⟩
theorem hi_le {n : Int} : ∀ (l : List Int) (a : Int), l.foldl (hiF q) a ≤ n ↔ a ≤ n ∧ ∀ e ∈ l, q.values.getD e.toNat 0 ≤ n
  | [], a => by simp
  | e :: l, a => by
    rw [List.foldl_cons, hi_le l]
    unfold hiF
    simp only [List.mem_cons, forall_eq_or_imp]
    split <;> constructor <;> rintro ⟨h1, h2⟩
    · exact ⟨by omega, h1, h2⟩
    · exact ⟨h2.1, h2.2⟩
    · exact ⟨h1, by omega, h2⟩
    · exact ⟨h1, h2.2⟩
theorem syms_sub {k : Nat} (hk : k ≤ 16) {x x' : Int} (hx : Sm k x) (hx' : Sm k x') (h : ∀ s, tb x' s = true → tb x s = true) : ∀ e ∈ symsI x', e ∈ symsI x := fun e he => by
  obtain ⟨s, rfl, h1, h2⟩ := (mem_symsI hx' (Nat.le_trans hk (by decide))).1 he
  exact (mem_symsI hx (Nat.le_trans hk (by decide))).2 ⟨s, rfl, h1, h s h2⟩
theorem sum_mono {c : ConsD} {k : Nat} (W : Work c k p) (W' : Work c k p') (hS : Sub c p' p) (hok : sumOk q c p' = true) :
    sumOk q c p = true ∧ ∀ a s, a < c.cells.length → sumX q c p a s = true → sumX q c p' a s = true := by
  have sub : ∀ a, a < c.cells.length → ∀ e ∈ symsI (setAt c p' a), e ∈ symsI (setAt c p a) := fun a ha => syms_sub W.k (W.at ha) (W'.at ha) (hS a ha)
  have l1 : ∀ a, a < c.cells.length → loV q (setAt c p a) ≤ loV q (setAt c p' a) := fun a ha => by
    have h := (lo_ge (q := q) (symsI (setAt c p a)) 100).1 (Int.le_refl _)
    exact (lo_ge (symsI (setAt c p' a)) 100).2 ⟨h.1, fun e he => h.2 e (sub a ha e he)⟩
  have l2 : ∀ a, a < c.cells.length → hiV q (setAt c p' a) ≤ hiV q (setAt c p a) := fun a ha => by
    have h := (hi_le (q := q) (symsI (setAt c p a)) (-1)).1 (Int.le_refl _)
    exact (hi_le (symsI (setAt c p' a)) (-1)).2 ⟨h.1, fun e he => h.2 e (sub a ha e he)⟩
  have t1 := tot_mono (f := fun a => loV q (setAt c p a)) (g := fun a => loV q (setAt c p' a)) (m := c.cells.length) l1
  have t2 := tot_mono (f := fun a => hiV q (setAt c p' a)) (g := fun a => hiV q (setAt c p a)) (m := c.cells.length) l2
  have e1 : ∀ p, lowOf q c p = tot (fun a => loV q (setAt c p a)) c.cells.length := fun _ => rfl
  have e2 : ∀ p, highOf q c p = tot (fun a => hiV q (setAt c p a)) c.cells.length := fun _ => rfl
  unfold sumOk at hok ⊢
  rw [Bool.and_eq_true, Bool.not_eq_true', Bool.not_eq_true', decide_eq_false_iff_not, decide_eq_false_iff_not, e1, e2] at hok ⊢
  refine ⟨⟨by omega, by omega⟩, fun a s ha h => ?_⟩
  unfold sumX at h ⊢
  rw [Bool.or_eq_true, decide_eq_true_iff, decide_eq_true_iff, e1, e2] at h ⊢
  have h1 := t1.2 a ha
  have h2 := t2.2 a ha
  rcases h with h | h
  · exact .inl (by omega)
  · exact .inr (by omega)
theorem up_ge {n b : Int} : ∀ (l : List Int) (a : Int), n ≤ l.foldl (upF q b) a ↔ n ≤ a ∧ ∀ e ∈ l, q.values.getD e.toNat 0 > b → n ≤ q.values.getD e.toNat 0
  | [], a => by simp
  | e :: l, a => by
    rw [List.foldl_cons, up_ge l]
    unfold upF
    simp only [List.mem_cons, forall_eq_or_imp]
    split
    · split <;> constructor <;> rintro ⟨h1, h2⟩
      · exact ⟨by omega, fun _ => h1, h2⟩
      · exact ⟨h2.1 (by assumption), h2.2⟩
      · exact ⟨h1, fun _ => by omega, h2⟩
      · exact ⟨h1, h2.2⟩
    · constructor <;> rintro ⟨h1, h2⟩
      · exact ⟨h1, fun h => absurd h (by assumption), h2⟩
      · exact ⟨h1, h2.2⟩
theorem dn_le {n b : Int} : ∀ (l : List Int) (a : Int), l.foldl (dnF q b) a ≤ n ↔ a ≤ n ∧ ∀ e ∈ l, q.values.getD e.toNat 0 < b → q.values.getD e.toNat 0 ≤ n
  | [], a => by simp
  | e :: l, a => by
    rw [List.foldl_cons, dn_le l]
    unfold dnF
    simp only [List.mem_cons, forall_eq_or_imp]
    split
    · split <;> constructor <;> rintro ⟨h1, h2⟩
      · exact ⟨by omega, fun _ => h1, h2⟩
      · exact ⟨h2.1 (by assumption), h2.2⟩
      · exact ⟨h1, fun _ => by omega, h2⟩
      · exact ⟨h1, h2.2⟩
    · constructor <;> rintro ⟨h1, h2⟩
      · exact ⟨h1, fun h => absurd h (by assumption), h2⟩
      · exact ⟨h1, h2.2⟩
theorem bef_mono {c : ConsD} {k : Nat} (W : Work c k p) (W' : Work c k p') (hS : Sub c p' p) : ∀ a, a ≤ c.cells.length → bef q c p a ≤ bef q c p' a
  | 0, _ => Int.le_refl _
  | a + 1, ha => by
    have ih := bef_mono W W' hS a (by omega)
    have h := (up_ge (q := q) (b := bef q c p a) (symsI (setAt c p a)) 100).1 (Int.le_refl _)
    exact (up_ge (symsI (setAt c p' a)) 100).2 ⟨h.1, fun e he hg => h.2 e (syms_sub W.k (W.at (by omega)) (W'.at (by omega)) (hS a (by omega)) e he) (by omega)⟩
theorem aftR_mono {c : ConsD} {k : Nat} (W : Work c k p) (W' : Work c k p') (hS : Sub c p' p) : ∀ m, m ≤ c.cells.length → aftR q c p' m ≤ aftR q c p m
  | 0, _ => Int.le_refl _
  | m + 1, hm => by
    have ih := aftR_mono W W' hS m (by omega)
    have h := (dn_le (q := q) (b := aftR q c p m) (symsI (setAt c p (c.cells.length - 1 - m))) (-1)).1 (Int.le_refl _)
    exact (dn_le (symsI (setAt c p' (c.cells.length - 1 - m))) (-1)).2 ⟨h.1, fun e he hg => h.2 e (syms_sub W.k (W.at (by omega)) (W'.at (by omega)) (hS _ (by omega)) e he) (by omega)⟩
theorem rise_mono {c : ConsD} {k : Nat} (W : Work c k p) (W' : Work c k p') (hS : Sub c p' p) {a s : Nat} (ha : a < c.cells.length) (h : riseX q c p a s = true) : riseX q c p' a s = true := by
  have h1 := bef_mono (q := q) W W' hS a (by omega)
  have h2 := aftR_mono (q := q) W W' hS (c.cells.length - (a + 1)) (by omega)
  unfold riseX aft at h ⊢
  rw [Bool.or_eq_true, decide_eq_true_iff, decide_eq_true_iff] at h ⊢
  rcases h with h | h
  · exact .inl (by omega)
  · exact .inr (by omega)
theorem kd_mono {c : ConsD} (hS : Sub c p' p) {a : Nat} (ha : a < c.cells.length) {inn : Bool} (h : kd c p' a inn = true) : kd c p a inn = true := by
  unfold kd at h ⊢
  cases inn
  · rw [cond_false, bne_iff_ne] at h ⊢
    exact fun h2 => h (andNot_mono (hS a ha) h2)
  · rw [cond_true, bne_iff_ne] at h ⊢
    exact and_mono (hS a ha) h
theorem rch_mono {c : ConsD} (hS : Sub c p' p) : ∀ (a : Nat), a ≤ c.cells.length → ∀ t, Rch c p' a t → Rch c p a t
  | 0, _, t, h => h
  | a + 1, ha, t, ⟨s, inn, h1, h2, h3⟩ => ⟨s, inn, rch_mono hS a (by omega) s h1, h2, kd_mono hS (by omega) h3⟩
theorem liv_mono {c : ConsD} (hS : Sub c p' p) : ∀ (m : Nat), m ≤ c.cells.length → ∀ t, Liv c p' m t → Liv c p m t
  | 0, _, t, h => h
  | m + 1, hm, t, ⟨h1, u, inn, h2, h3, h4⟩ => ⟨rch_mono hS _ (by omega) t h1, u, inn, h2, kd_mono hS (by omega) h3, liv_mono hS m (by omega) u h4⟩
theorem can_mono {c : ConsD} (hS : Sub c p' p) {a : Nat} (ha : a < c.cells.length) {inn : Bool} (h : can c p' a inn) : can c p a inn := by
  obtain ⟨s, t, h1, h2, h3, h4⟩ := h
  exact ⟨s, t, rch_mono hS a (by omega) s h1, h2, kd_mono hS ha h3, liv_mono hS _ (by omega) t h4⟩
theorem runs_mono {c : ConsD} (hS : Sub c p' p) {a s : Nat} (ha : a < c.cells.length) (h : runsD c p a s) : runsD c p' a s :=
  h.elim (fun h => .inl ⟨fun h2 => h.1 (can_mono hS ha h2), h.2⟩) fun h => .inr ⟨fun h2 => h.1 (can_mono hS ha h2), h.2⟩
theorem pair_mono {ok : Nat → Nat → Bool} {c : ConsD} (hS : Sub c p' p) (h2 : c.cells.length = 2) {a s : Nat} (h : pairD ok c p a s) : pairD ok c p' a s := by
  unfold pairD at h ⊢
  split
  · rename_i h0
    rw [if_pos h0] at h
    exact fun ⟨t, h3, h4⟩ => h ⟨t, hS 1 (by omega) t h3, h4⟩
  · rename_i h0
    rw [if_neg h0] at h
    exact fun ⟨t, h3, h4⟩ => h ⟨t, hS 0 (by omega) t h3, h4⟩
/-- All cells. -/
structure SubAll (c : ConsD) (q : ProbD) (p p' : List Int) : Prop where
  W : WorkAll c q p
  W' : WorkAll c q p'
  len : p.length = p'.length
  sub : ∀ j, j < p.length → ∀ s, tb (p'.getD j 0) s = true → tb (p.getD j 0) s = true
section
variable {c : ConsD}
theorem SubAll.pB (H : SubAll c q p p') : ∀ v : Int, (pB c p').getD v.toNat false = true → (pB c p).getD v.toNat false = true := fun v h => by
  have hl := H.len
  by_cases hv : v.toNat < p.length
  · rw [pB_at (by omega), bne_iff_ne] at h
    rw [pB_at hv, bne_iff_ne]
    exact and_mono (H.sub _ hv) h
  · rw [List.getD_eq_getElem?_getD, List.getElem?_eq_none (by rw [pB_len]; omega)] at h
    cases h
theorem SubAll.cB (H : SubAll c q p p') : ∀ v : Int, (cB c p).getD v.toNat false = true → (cB c p').getD v.toNat false = true := fun v h => by
  have hl := H.len
  by_cases hv : v.toNat < p.length
  · rw [cB_at hv, beq_iff_eq] at h
    rw [cB_at (by omega), beq_iff_eq]
    exact andNot_mono (H.sub _ hv) h
  · rw [List.getD_eq_getElem?_getD, List.getElem?_eq_none (by rw [cB_len]; omega)] at h
    cases h
theorem pB_of {x : List Int} {j s : Nat} (hj : j < x.length) (h1 : tb (x.getD j 0) s = true) (h2 : tb c.set s = true) : (pB c x).getD j false = true := by
  rw [pB_at hj, bne_iff_ne]
  exact and_of h1 h2
theorem set_of_cB {x : List Int} {j s : Nat} (hj : j < x.length) (h : (cB c x).getD j false = true) (h1 : tb (x.getD j 0) s = true) : tb c.set s = true := by
  rw [cB_at hj, beq_iff_eq] at h
  exact in_set h h1
/-- Where something is left everywhere, all that must be in the set is connected with its first. -/
theorem keep (W : WorkAll c q p') (hleft : ∀ v, v < p'.length → ∃ s, tb (p'.getD v 0) s = true ∧ ¬ farD c q p' v s) {r : Int} (h0 : 0 ≤ r) (hF : Fst (cB c p') r) {v : Int} (hv0 : 0 ≤ v) (hv1 : v < (p'.length : Int)) (hc : (cB c p').getD v.toNat false = true) : Rc q.nbrs (pB c p') r v := by
  refine Classical.byContradiction fun h => ?_
  obtain ⟨s, h1, h2⟩ := hleft v.toNat (by omega)
  have e : ((v.toNat : Nat) : Int) = v := by omega
  exact h2 ⟨W.cp (by omega) hc, set_of_cB (by omega) hc h1, r, h0, hF, by rw [e]; exact h⟩
theorem Fst.ex (W : WorkAll c q p') {v : Int} (hv0 : 0 ≤ v) (hv1 : v < (p'.length : Int)) (hc : (cB c p').getD v.toNat false = true) : ∃ r : Int, 0 ≤ r ∧ r < (p'.length : Int) ∧ Fst (cB c p') r ∧ (cB c p').getD r.toNat false = true := by
  obtain ⟨r, _, hF⟩ := indexB_ev (l := cB c p') (by rw [cB_len]; exact W.l1)
  rcases hF with ⟨h1, h2⟩ | ⟨h1, h2, h3, h4⟩
  · rw [h2 v.toNat (by rw [cB_len]; omega)] at hc; cases hc
  · rw [cB_len] at h2
    exact ⟨r, h1, h2, .inr ⟨h1, by rw [cB_len]; exact h2, h3, h4⟩, h3⟩
theorem Fst.at {r : Int} (h0 : 0 ≤ r) (h : Fst (cB c p) r) : r < (p.length : Int) ∧ (cB c p).getD r.toNat false = true := by
  rcases h with ⟨h1, _⟩ | ⟨_, h1, h2, _⟩
  · omega
  · rw [cB_len] at h1; exact ⟨h1, h2⟩
theorem far_mono (H : SubAll c q p p') (hleft : ∀ v, v < p'.length → ∃ s, tb (p'.getD v 0) s = true ∧ ¬ farD c q p' v s) {a s : Nat} (ha : a < p.length) (hs : tb (p'.getD a 0) s = true) (h : farD c q p a s) : farD c q p' a s := by
  obtain ⟨h1, h2, r, hr0, hF, h3⟩ := h
  have hl := H.len
  have gl := H.W'.gl
  obtain ⟨hr1, hrc⟩ := hF.at hr0
  have hrc' := H.cB r hrc
  obtain ⟨r', h4, h5, hF', h6⟩ := Fst.ex H.W' hr0 (by omega) hrc'
  refine ⟨pB_of (by omega) hs h2, h2, r', h4, hF', fun h7 => h3 ?_⟩
  have h8 := keep H.W' hleft h4 hF' hr0 (by omega) hrc'
  have h9 := h8.symm H.W'.g.gr h4 (by omega) (H.W'.cp (by omega) h6)
  exact (h9.trans h7).mono H.pB
theorem avoid {g : List (List Int)} {inn : List Bool} {u a v : Int} (hna : ¬ Rc g inn u a) (ha : 0 ≤ a) (G : Gr g) (hu0 : 0 ≤ u) (hu1 : u < (g.length : Int)) (h : Rc g inn u v) : Rc g (inn.set a.toNat false) u v := by
  induction h with
  | start => exact .start
  | @step x y h hb hi ih =>
    refine .step ih hb ?_
    have hr := (Rc.step h hb hi).rng G hu0 hu1
    have hne : a.toNat ≠ y.toNat := fun e => hna (by
      have e2 : a = y := by omega
      rw [e2]; exact Rc.step h hb hi)
    rw [List.getD_eq_getElem?_getD, List.getElem?_set_ne hne, ← List.getD_eq_getElem?_getD]
    exact hi
theorem conn_mono (H : SubAll c q p p') (hleft : ∀ v, v < p'.length → ∃ s, tb (p'.getD v 0) s = true ∧ ¬ connD c q p' v s) {a s : Nat} (ha : a < p.length) (hs : tb (p'.getD a 0) s = true) (h : connD c q p a s) : connD c q p' a s := by
  have hl := H.len
  have gl := H.W'.gl
  have gl1 := H.W.gl
  have hleft' : ∀ v, v < p'.length → ∃ s, tb (p'.getD v 0) s = true ∧ ¬ farD c q p' v s := fun v hv => by
    obtain ⟨t, h1, h2⟩ := hleft v hv
    exact ⟨t, h1, fun h => h2 (.inl h)⟩
  rcases h with h | ⟨h1, h2, ⟨u, v, hua, hva, hu, hv, h3, h4, h5⟩, h6⟩
  · exact .inl (far_mono H hleft' ha hs h)
  · have hur := h3.rng H.W.g.gr (by omega) (by omega)
    have hvr := h4.rng H.W.g.gr (by omega) (by omega)
    have hu' := H.cB u hu
    have hv' := H.cB v hv
    have pu := H.W'.cp (j := u.toNat) (by omega) hu'
    obtain ⟨r', h7, h8, hF', h9⟩ := Fst.ex H.W' hur.1 (by omega) hu'
    have ku := keep H.W' hleft' h7 hF' hur.1 (by omega) hu'
    have kv := keep H.W' hleft' h7 hF' hvr.1 (by omega) hv'
    have uv : Rc q.nbrs (pB c p') u v := (ku.symm H.W'.g.gr h7 (by omega) (H.W'.cp (by omega) h9)).trans kv
    have mset : ∀ w : Int, ((pB c p').set (a : Int).toNat false).getD w.toNat false = true → ((pB c p).set (a : Int).toNat false).getD w.toNat false = true := fun w hw => by
      have la : (pB c p').length = p'.length := pB_len
      have lb : (pB c p).length = p.length := pB_len
      rw [bgetD_set (by omega)] at hw ⊢
      split
      · rename_i e; rw [if_pos e] at hw; exact hw
      · rename_i e; rw [if_neg e] at hw; exact H.pB w hw
    have ua : Rc q.nbrs (pB c p') u a := Classical.byContradiction fun h10 => h5 ((avoid h10 (by omega) H.W'.g.gr hur.1 (by omega) uv).mono mset)
    have au := ua.symm H.W'.g.gr hur.1 (by omega) pu
    refine .inr ⟨?_, ?_, ⟨u, v, hua, hva, hu', hv', au, au.trans uv, fun h10 => h5 (h10.mono mset)⟩, h6⟩
    · have := ua.isIn pu
      rwa [Int.toNat_natCast] at this
    · cases hc : (cB c p').getD a false with
      | false => rfl
      | true => rw [set_of_cB (by omega) hc hs] at h6; cases h6
theorem loop_mono (H : SubAll c q p p') (hok : loopOk c q p') (hleft : ∀ v, v < p'.length → ∃ s, tb (p'.getD v 0) s = true ∧ ¬ loopD c q p' v s) : loopOk c q p ∧ ∀ a s, a < p.length → tb (p'.getD a 0) s = true → loopD c q p a s → loopD c q p' a s := by
  have hl := H.len
  have hleft' : ∀ v, v < p'.length → ∃ s, tb (p'.getD v 0) s = true ∧ ¬ farD c q p' v s := fun v hv => by
    obtain ⟨t, h1, h2⟩ := hleft v hv
    exact ⟨t, h1, fun h => h2 (.inl h)⟩
  have cb : ∀ v : Nat, (cB c p).getD v false = true → (cB c p').getD v false = true := fun v h => H.cB (v : Int) h
  have dP : ∀ v : Int, deg q.nbrs (pB c p') v ≤ deg q.nbrs (pB c p) v := fun v => countP_le _ fun x _ h => H.pB x h
  have dC : ∀ v : Int, deg q.nbrs (cB c p) v ≤ deg q.nbrs (cB c p') v := fun v => countP_le _ fun x _ h => H.cB x h
  refine ⟨fun v hv hc => ?_, fun a s ha hs h => ?_⟩
  · have := hok v (by omega) (cb v hc)
    have h1 := dP v
    have h2 := dC v
    omega
  · rcases h with h | ⟨v, hv, h1, h2, h3, h4⟩
    · exact .inl (far_mono H hleft' ha hs h)
    · have hk := hok v (by omega) (cb v h1)
      have e1 := dP v
      have e2 := dC v
      refine .inr ⟨v, by omega, cb v h1, h2, ?_⟩
      rcases h4 with ⟨h4, h5⟩ | ⟨h4, h5, h6⟩
      · have hp : (pB c p').getD a false = true := by
          cases hp : (pB c p').getD a false with
          | true => rfl
          | false =>
            have := countP_lt (f := fun x : Int => (pB c p').getD x.toNat false) (g := fun x : Int => (pB c p).getD x.toNat false) (a := (a : Int)) hp h3 (nb q.nbrs v) (fun x _ h => H.pB x h) h2
            have e3 : deg q.nbrs (pB c p') v + 1 ≤ deg q.nbrs (pB c p) v := this
            omega
        exact ⟨hp, .inl ⟨by omega, h5⟩⟩
      · have hp := pB_of (c := c) (by omega) hs h6
        have hc : (cB c p').getD a false = false := by
          cases hc : (cB c p').getD a false with
          | false => rfl
          | true =>
            have := countP_lt (f := fun x : Int => (cB c p).getD x.toNat false) (g := fun x : Int => (cB c p').getD x.toNat false) (a := (a : Int)) h5 hc (nb q.nbrs v) (fun x _ h => H.cB x h) h2
            have e3 : deg q.nbrs (cB c p) v + 1 ≤ deg q.nbrs (cB c p') v := this
            omega
        exact ⟨hp, .inr ⟨by omega, hc, h6⟩⟩
end
/-- A constraint that leaves something of lesser sets leaves it of greater ones. -/
theorem mono (C : Ctx q i p) (C' : Ctx q i p') (hS : Sub (con q i) p' p) (hA : OA q (con q i) p') :
    okC q (con q i) p ∧ ∀ k, k < (con q i).cells.length → ∀ s, tb (setAt (con q i) p' k) s = true → lostC q (con q i) p k s → lostC q (con q i) p' k s := by
  have W := C.work
  have W' := C'.work
  have hin : ∀ a, a < (con q i).cells.length → In64 (setAt (con q i) p' a) := fun a ha => (W'.at ha).in64 (by have := W'.k; omega)
  have kc := kind_cases (kind_range C.kind)
  have okT : ∀ {k : Int}, (con q i).kind = k → k ≠ 2 → k ≠ 3 → k ≠ 9 → okC q (con q i) p := fun hk h2 h3 h9 => ⟨fun h => absurd (hk.symm.trans h) h2, fun h => absurd (hk.symm.trans h) h3, hA.ok.2.2.1, fun h => absurd (hk.symm.trans h) h9⟩
  have all : ∀ {hk : (con q i).kind = 8 ∨ (con q i).kind = 9}, SubAll (con q i) q p p' := fun {hk} => by
    have hl := C.len
    have hl' := C'.len
    have hd' : deadB p' = false := deadB_false.2 fun j hj => by
      have hk8 : (con q i).cells.length = p'.length := by
        have h := C'.kind
        unfold kindOk at h
        rcases hk with hk | hk <;> rw [hk] at h <;> simp at h <;> omega
      have := hA.nz j (by omega)
      have e : setAt (con q i) p' j = p'.getD j 0 := by
        unfold setAt
        rw [C'.cells.2.2 (by omega) j (by omega), Int.toNat_natCast]
      rwa [e] at this
    have A' := C'.all hk hd'
    have hsub : ∀ j, j < p.length → ∀ s, tb (p'.getD j 0) s = true → tb (p.getD j 0) s = true := fun j hj s hs => by
      have e : ∀ x : List Int, setAt (con q i) x j = x.getD j 0 := fun x => by
        unfold setAt
        rw [A'.id j (by omega), Int.toNat_natCast]
      have := hS j (by rw [A'.len]; omega) s (by rw [e]; exact hs)
      rwa [e] at this
    have hd : deadB p = false := deadB_false.2 fun j hj => by
      have h := deadB_false.1 hd' j (by omega)
      obtain ⟨s, h1, h2⟩ := (tb_ne_zero ((C'.sm j (by omega)).in64 (by have := W'.k; omega))).1 h
      exact (tb_ne_zero ((C.sm j hj).in64 (by have := W'.k; omega))).2 ⟨s, h1, hsub j hj s h2⟩
    exact ⟨C.all hk hd, A', by omega, hsub⟩
  rcases kc with hk | hk | hk | hk | hk | hk | hk | hk | hk
  · refine ⟨okT hk (by decide) (by decide) (by decide), fun k hkl s hs h => ?_⟩
    unfold lostC at h ⊢
    rw [hk] at h ⊢
    simp at h ⊢
    exact diff_mono W hS hin hA.nz h
  · have h2 := count_mono hS hin hA.nz (hA.ok.1 hk)
    refine ⟨⟨fun _ => h2.1, fun h => absurd (hk.symm.trans h) (by decide), hA.ok.2.2.1, fun h => absurd (hk.symm.trans h) (by decide)⟩, fun k hkl s hs h => ?_⟩
    unfold lostC at h ⊢
    rw [hk] at h ⊢
    simp at h ⊢
    exact h2.2 k s hkl hs h
  · have h2 := sum_mono (q := q) W W' hS (hA.ok.2.1 hk)
    refine ⟨⟨fun h => absurd (hk.symm.trans h) (by decide), fun _ => h2.1, hA.ok.2.2.1, fun h => absurd (hk.symm.trans h) (by decide)⟩, fun k hkl s hs h => ?_⟩
    unfold lostC at h ⊢
    rw [hk] at h ⊢
    simp at h ⊢
    exact h2.2 k s hkl h
  · refine ⟨okT hk (by decide) (by decide) (by decide), fun k hkl s hs h => ?_⟩
    unfold lostC at h ⊢
    rw [hk] at h ⊢
    simp at h ⊢
    exact rise_mono W W' hS hkl h
  · refine ⟨okT hk (by decide) (by decide) (by decide), fun k hkl s hs h => ?_⟩
    unfold lostC at h ⊢
    rw [hk] at h ⊢
    simp at h ⊢
    exact runs_mono hS hkl h
  · refine ⟨okT hk (by decide) (by decide) (by decide), fun k hkl s hs h => ?_⟩
    have h2 := C.two (.inl hk)
    unfold lostC at h ⊢
    rw [hk] at h ⊢
    simp at h ⊢
    exact pair_mono hS h2 h
  · refine ⟨okT hk (by decide) (by decide) (by decide), fun k hkl s hs h => ?_⟩
    have h2 := C.two (.inr hk)
    unfold lostC at h ⊢
    rw [hk] at h ⊢
    simp at h ⊢
    exact pair_mono hS h2 h
  · have H := all (hk := .inl hk)
    have e : ∀ (x : List Int) (j : Nat), j < p.length → setAt (con q i) x j = x.getD j 0 := fun x j hj => by
      unfold setAt
      rw [H.W.id j hj, Int.toNat_natCast]
    have hlen := H.W.len
    have hl := H.len
    have lc : ∀ x a s, lostC q (con q i) x a s ↔ connD (con q i) q x a s := fun x a s => by unfold lostC; rw [hk]; simp
    refine ⟨okT hk (by decide) (by decide) (by decide), fun k hkl s hs h => ?_⟩
    rw [lc] at h ⊢
    rw [e _ _ (by omega)] at hs
    refine conn_mono H (fun v hv => ?_) (by omega) hs h
    obtain ⟨t, h1, h2⟩ := hA.left v (by omega)
    rw [e _ _ (by omega)] at h1
    exact ⟨t, h1, fun h3 => h2 ((lc _ _ _).2 h3)⟩
  · have H := all (hk := .inr hk)
    have e : ∀ (x : List Int) (j : Nat), j < p.length → setAt (con q i) x j = x.getD j 0 := fun x j hj => by
      unfold setAt
      rw [H.W.id j hj, Int.toNat_natCast]
    have hlen := H.W.len
    have hl := H.len
    have lc : ∀ x a s, lostC q (con q i) x a s ↔ loopD (con q i) q x a s := fun x a s => by unfold lostC; rw [hk]; simp
    have h2 := loop_mono H (hA.ok.2.2.2 hk) fun v hv => by
      obtain ⟨t, h1, h2⟩ := hA.left v (by omega)
      rw [e _ _ (by omega)] at h1
      exact ⟨t, h1, fun h3 => h2 ((lc _ _ _).2 h3)⟩
    refine ⟨⟨fun h => absurd (hk.symm.trans h) (by decide), fun h => absurd (hk.symm.trans h) (by decide), hA.ok.2.2.1, fun _ => h2.1⟩, fun k hkl s hs h => ?_⟩
    rw [lc] at h ⊢
    rw [e _ _ (by omega)] at hs
    exact h2.2 k s (by omega) hs h
end
end Go.Proofs.YtekkngkphejfcaaDoor
namespace Go.Proofs.YtekkngkphejfcaaDoor
open Go.RowKit
set_option maxRecDepth 100000
set_option maxHeartbeats 40000000
theorem s_withinP_6 : SOk (regF Tryd.f17 6) [] (List.range 10) [] := by unfold SOk; kernel_rfl
def sch_withinP : Sch := fun i => match i with
  | 6 => .ord [] (List.range 10) []
  | _ => .no
inductive withinPPt where
  | l1 (x13 : Int)
def withinP_l1 (n : Nat) (self : withinPPt → Option Bool) (a b_ : List Int) (x13 : Int) : Option Bool :=
  bif (decide (x13 < (a.length : Int))) then
   if (0 ≤ x13 ∧ x13 < (a.length : Int)) ∧ (0 ≤ x13 ∧ x13 < (b_.length : Int)) then
    bif ((bits .andNot .i64 (a.getD ((x13).toNat) 0) (b_.getD ((x13).toNat) 0)) != 0) then
     some false
    else
     if R64 (x13 + 1) then
      self (.l1 (x13 + 1))
     else none
   else none
  else
   some true
def withinP_l0 (n : Nat) (self : withinPPt → Option Bool) (a b_ : List Int) : Option Bool :=
  bif ((a.length : Int) != (b_.length : Int)) then
   some false
  else
   self (.l1 0)
def withinP_m (a b_ : List Int) : Nat → withinPPt → Option Bool
  | 0, _ => none
  | n + 1, .l1 x13 => withinP_l1 n (withinP_m a b_ n) a b_ x13
def withinP (n : Nat) (a b_ : List Int) : Option Bool := withinP_l0 n (withinP_m a b_ n) a b_
/-- What the points stand for. -/
def withinP_at (n : Nat) (B : Nat) (N : Yard Tryd.prog GG 0) (a b_ : List Int) (r : Bool) : withinPPt → Prop
  | .l1 x13 => ∀ m0 : Nat, n ≤ m0 → TrK Tryd.prog GG Fence.wide (some B) 0 N (Fin Tryd.prog Tryd.f17 0 (.bool r) []) (toN m0 (atNC (bodyC Tryd.f17) 0 [])) ⟨frm 27 [(0, .ints a), (1, .ints b_), (12, .i (a.length : Int)), (13, .i x13)], []⟩
theorem withinP_all (B : Nat) (N : Yard Tryd.prog GG 0) (a b_ : List Int) : ∀ (n : Nat) (pt : withinPPt) (r : Bool), withinP_m a b_ n pt = some r → withinP_at n B N a b_ r pt := by
  intro n; induction n with
  | zero => intro _ _ h; cases h
  | succ n hself =>
   intro pt r h
   cases pt
   case l1 x13 =>
    have h : withinP_l1 n (withinP_m a b_ n) a b_ x13 = some r := h
    intro m0 hm0
    refine rd hm0 fun m0 hm0 => ?_
    unfold withinP_l1 at h
    rcases bifSome h with ⟨c0, h⟩ | ⟨c0, h⟩
    · obtain ⟨⟨g0, g1⟩, h⟩ := guardSome h
      have p := H0.b 14 c0 |>.g s_withinP_6 |>.g g0 |>.g g1
      rcases bifSome h with ⟨c1, h⟩ | ⟨c1, h⟩
      · obtain rfl := Option.some.inj h
        exact ee sch_withinP [4] [] (p.b 25 c1)
      · obtain ⟨g2, h⟩ := guardSome h
        exact gg sch_withinP [] (p.b 25 c1 |>.w 26 g2) (hself _ _ h m0 hm0)
    · obtain rfl := Option.some.inj h
      exact ee sch_withinP [4] [] (H0.b 14 c0)
theorem withinP_ok {n : Nat} {a b_ : List Int} {r : Bool} (h : withinP n a b_ = some r) : ES Tryd.prog GG 17 [.ints a, .ints b_] [] (.bool r) [] true := by
  refine ot Tryd.func17 fun B N => ?_
  have hself := withinP_all B N a b_ n
  unfold withinP at h
  unfold withinP_l0 at h
  rcases bifSome h with ⟨c0, h⟩ | ⟨c0, h⟩
  · obtain rfl := Option.some.inj h
    exact ee sch_withinP [4] [] (H0.b 10 c0)
  · exact gg sch_withinP [] (H0.b 10 c0) (en n (hself _ _ h n (Nat.le_refl _)))
def lawMonotone_l0 (n : Nat) (q : ProbD) (i : Int) (a b_ : List Int) : Option Bool :=
  (sane n).bind fun y1 =>
   bif (!y1) then
    some false
   else
    (few n q a).bind fun y2 =>
     bif (!y2) then
      some true
     else
      bif (decide ((b_.length : Int) > 20)) then
       some true
      else
       (pruneP n q i a).bind fun y3 =>
        (pruneP n q i b_).bind fun y4 =>
         bif (y3.2 != 0) then
          some true
         else
          bif (y4.2 != 0) then
           some true
          else
           (meetP n a b_).bind fun y5 =>
            (pruneP n q i y5.1).bind fun y6 =>
             bif (y5.2 == 0) then
              bif (y6.2 == 0) then
               (withinP n y6.1 y3.1).bind fun y7 =>
                bif y7 then
                 (withinP n y6.1 y4.1).bind fun y8 =>
                  bif y8 then
                   (withinP n y3.1 a).bind fun y9 =>
                    some y9
                  else
                   some false
                else
                 some false
              else
               some false
             else
              some false
def lawMonotone (n : Nat) (q : ProbD) (i : Int) (a b_ : List Int) : Option Bool := lawMonotone_l0 n q i a b_
theorem lawMonotone_ok {n : Nat} {q : ProbD} {i : Int} {a b_ : List Int} {r : Bool} (h : lawMonotone n q i a b_ = some r) : ES Tryd.prog GG 6 [.agg 5 (L1 (probC q)), .i i, .ints a, .ints b_] [] (.bool r) [] true := by
  refine ot Tryd.func6 fun B N => ?_
  unfold lawMonotone at h
  unfold lawMonotone_l0 at h
  obtain ⟨y1, hy1, h⟩ := bindSome h
  have p := H0.c (fb (sane_ok hy1) [some (.cells (probC q))])
  rcases bifSome h with ⟨c0, h⟩ | ⟨c0, h⟩
  · obtain rfl := Option.some.inj h
    exact ee sch0 [8] [] (p.b 18 c0)
  · obtain ⟨y2, hy2, h⟩ := bindSome h
    have p := p.b 18 c0 |>.c (fb (few_ok hy2) [some (.cells (probC q))])
    rcases bifSome h with ⟨c1, h⟩ | ⟨c1, h⟩
    · obtain rfl := Option.some.inj h
      exact ee sch0 [8] [] (p.b 22 c1)
    · have p := p.b 22 c1
      rcases bifSome h with ⟨c2, h⟩ | ⟨c2, h⟩
      · obtain rfl := Option.some.inj h
        exact ee sch0 [8] [] (p.b 26 c2)
      · obtain ⟨y3, hy3, h⟩ := bindSome h
        obtain ⟨y4, hy4, h⟩ := bindSome h
        have p := p.b 26 c2 |>.c (fb (pruneP_ok hy3) [some (.cells (probC q))]) |>.c (fb (pruneP_ok hy4) [some (.cells (probC q))])
        rcases bifSome h with ⟨c3, h⟩ | ⟨c3, h⟩
        · obtain rfl := Option.some.inj h
          exact ee sch0 [8] [] (p.b 43 c3)
        · have p := p.b 43 c3
          rcases bifSome h with ⟨c4, h⟩ | ⟨c4, h⟩
          · obtain rfl := Option.some.inj h
            exact ee sch0 [8] [] (p.b 46 c4)
          · obtain ⟨y5, hy5, h⟩ := bindSome h
            obtain ⟨y6, hy6, h⟩ := bindSome h
            have p := p.b 46 c4 |>.c (fb (meetP_ok hy5) [some (.cells (probC q))]) |>.c (fb (pruneP_ok hy6) [some (.cells (probC q))])
            rcases bifSome h with ⟨c5, h⟩ | ⟨c5, h⟩
            · have p := p.b 62 c5
              rcases bifSome h with ⟨c6, h⟩ | ⟨c6, h⟩
              · obtain ⟨y7, hy7, h⟩ := bindSome h
                have p := p.b 65 c6 |>.c (fb (withinP_ok hy7) [some (.cells (probC q))])
                rcases bifSome h with ⟨c7, h⟩ | ⟨c7, h⟩
                · obtain ⟨y8, hy8, h⟩ := bindSome h
                  have p := p.b 70 c7 |>.c (fb (withinP_ok hy8) [some (.cells (probC q))])
                  rcases bifSome h with ⟨c8, h⟩ | ⟨c8, h⟩
                  · obtain ⟨y9, hy9, h⟩ := bindSome h
                    obtain rfl := Option.some.inj h
                    exact ee sch0 [8] [] (p.b 75 c8 |>.c (fb (withinP_ok hy9) [some (.cells (probC q))]))
                  · obtain rfl := Option.some.inj h
                    exact ee sch0 [8] [] (p.b 75 c8)
                · obtain rfl := Option.some.inj h
                  exact ee sch0 [8] [] (p.b 70 c7)
              · obtain rfl := Option.some.inj h
                exact ee sch0 [8] [] (p.b 65 c6)
            · obtain rfl := Option.some.inj h
              exact ee sch0 [8] [] (p.b 62 c5)
end Go.Proofs.YtekkngkphejfcaaDoor
namespace Go.Proofs.YtekkngkphejfcaaDoor
open Go.RowKit
section
variable {q : ProbD} {i : Int} {pos x : List Int}
theorem PR.sub {c : ConsD} (h : PR q c pos x) {j s : Nat} (hs : tb (x.getD j 0) s = true) : j < pos.length ∧ tb (pos.getD j 0) s = true := by
  have hj : j < pos.length := by
    refine Nat.lt_of_not_le fun hle => ?_
    rw [List.getD_eq_getElem?_getD, List.getElem?_eq_none (by have := h.len; omega)] at hs
    exact tb0 hs
  refine ⟨hj, ?_⟩
  by_cases hA : Alive q c pos
  · exact (((h.live hA j hj).2 s).1 hs).1
  · rw [h.dead hA, zat] at hs; exact absurd hs tb0
theorem posOk_iff (hv : validB q = true) {y : List Int} : posOk q y = true ↔ (y.length : Int) = q.cells ∧ ∀ j, j < y.length → Sm q.symbols.toNat (y.getD j 0) := by
  unfold posOk
  rw [Bool.and_eq_true, beq_iff_eq, List.all_eq_true]
  constructor
  · rintro ⟨h1, h2⟩
    refine ⟨h1, fun j hj => ?_⟩
    have hm : y.getD j 0 ∈ y := by rw [List.getD_eq_getElem?_getD, List.getElem?_eq_getElem hj]; exact List.getElem_mem hj
    have := h2 _ hm
    rw [Bool.and_eq_true, decide_eq_true_iff, decide_eq_true_iff] at this
    exact this
  · rintro ⟨h1, h2⟩
    refine ⟨h1, fun z hz => ?_⟩
    obtain ⟨j, hj, rfl⟩ := List.getElem_of_mem hz
    have := h2 j hj
    rw [List.getD_eq_getElem?_getD, List.getElem?_eq_getElem hj] at this
    rw [Bool.and_eq_true, decide_eq_true_iff, decide_eq_true_iff]
    exact this
end
end Go.Proofs.YtekkngkphejfcaaDoor
namespace Go.Proofs.YtekkngkphejfcaaDoor
open Go.RowKit
theorem sane_ev : Ev sane true := ⟨200, fun n hn => by
  obtain ⟨k, rfl⟩ : ∃ k, n = k + 200 := ⟨n - 200, by omega⟩
  exact (show ∀ k, sane (k + 200) = some true from fun k => by kernel_rfl) k⟩
section
variable {q : ProbD} {i : Int} {pos : List Int}
/-- A law starts so: the examples hold; a problem that is not small is passed over. -/
theorem law_start {n : Nat → Option Bool} {f : Nat → Option Bool} (h : ∀ m, n m = (sane m).bind fun y1 => bif (!y1) then some false else (few m q pos).bind fun y2 => bif (!y2) then some true else f m) (hf : Ev f true) : Ev n true := by
  obtain ⟨N, hs⟩ := sane_ev
  obtain ⟨M, hf⟩ := hf
  refine ⟨N + M + q.cons.length + 1, fun m hm => ?_⟩
  obtain ⟨b, hb⟩ := few_some (q := q) (pos := pos) (n := m) (by omega)
  rw [h, hs m (by omega), Option.bind_some, hb, Option.bind_some, hf m (by omega)]
  cases b <;> rfl
end
end Go.Proofs.YtekkngkphejfcaaDoor
namespace Go.Proofs.YtekkngkphejfcaaDoor
open Go.RowKit
section
variable {q : ProbD} {i : Int} {p p' x z : List Int}
theorem LC_at (C : Ctx q i p) {k s : Nat} (hk : k < (con q i).cells.length) : LC q (con q i) p ((con q i).cells.getD k 0).toNat s ↔ lostC q (con q i) p k s := by
  constructor
  · rintro ⟨a, ha, e, h⟩
    have h1 := C.work.cells a ha
    have h2 := C.work.cells k hk
    have hnd := C.cells.2.1
    have e2 : (con q i).cells.getD a 0 = (con q i).cells.getD k 0 := by omega
    rw [List.getD_eq_getElem?_getD, List.getElem?_eq_getElem ha, List.getD_eq_getElem?_getD, List.getElem?_eq_getElem hk] at e2
    have e2 : (con q i).cells[a] = (con q i).cells[k] := e2
    have hp := List.pairwise_iff_getElem.1 hnd
    have : a = k := by
      rcases Nat.lt_trichotomy a k with h3 | h3 | h3
      · exact absurd e2 (hp a k ha hk h3)
      · exact h3
      · exact absurd e2.symm (hp k a hk ha h3)
    subst this
    exact h
  · intro h
    exact ⟨k, hk, rfl, h⟩
theorem alive_iff (C : Ctx q i p) : Alive q (con q i) p ↔ (∀ j, j < p.length → p.getD j 0 ≠ 0) ∧ OA q (con q i) p := by
  have W := C.work
  constructor
  · intro h
    refine ⟨h.nz, fun k hk => h.nz _ (by have := W.cells k hk; omega), h.ok, fun k hk => ?_⟩
    obtain ⟨s, _, h1, h2⟩ := h.left ((con q i).cells.getD k 0).toNat (by have := W.cells k hk; omega)
    exact ⟨s, h1, fun h3 => h2 ((LC_at C hk).2 h3)⟩
  · rintro ⟨h1, h2⟩
    refine ⟨h1, h2.ok, fun j hj => ?_⟩
    by_cases hown : ∃ k, k < (con q i).cells.length ∧ ((con q i).cells.getD k 0).toNat = j
    · obtain ⟨k, hk, rfl⟩ := hown
      obtain ⟨s, h3, h4⟩ := h2.left k hk
      exact ⟨s, Nat.lt_of_not_le fun h => (by rw [tb_ge h] at h3; cases h3), h3, fun h5 => h4 ((LC_at C hk).1 h5)⟩
    · obtain ⟨s, h3, h4⟩ := (tb_ne_zero ((C.sm j hj).in64 (by have := W.k; omega))).1 (h1 j hj)
      exact ⟨s, h3, h4, fun ⟨a, ha, e, _⟩ => hown ⟨a, ha, e⟩⟩
/-- The constraint leaves something of lesser sets: so it does of greater ones, and more. -/
theorem oa_mono (C : Ctx q i p) (C' : Ctx q i p') (hS : Sub (con q i) p' p) (hA : OA q (con q i) p') : OA q (con q i) p ∧ ∀ k, k < (con q i).cells.length → ∀ s, tb (setAt (con q i) p' k) s = true → lostC q (con q i) p k s → lostC q (con q i) p' k s := by
  obtain ⟨h1, h2⟩ := mono C C' hS hA
  have W := C.work
  refine ⟨⟨fun k hk => ?_, h1, fun k hk => ?_⟩, h2⟩
  · obtain ⟨s, h3, _⟩ := hA.left k hk
    exact (tb_ne_zero ((W.at hk).in64 (by have := W.k; omega))).2 ⟨s, Nat.lt_of_not_le fun h => (by rw [tb_ge h] at h3; cases h3), hS k hk s h3⟩
  · obtain ⟨s, h3, h4⟩ := hA.left k hk
    exact ⟨s, hS k hk s h3, fun h5 => h4 (h2 k hk s h3 h5)⟩
theorem pr_mono (C : Ctx q i p) (C' : Ctx q i p') (hsub : ∀ j s, tb (p'.getD j 0) s = true → tb (p.getD j 0) s = true) (hx : PR q (con q i) p x) (hz : PR q (con q i) p' z) : ∀ j s, tb (z.getD j 0) s = true → tb (x.getD j 0) s = true := by
  intro j s h
  have hl := C.len
  have hl' := C'.len
  by_cases hA' : Alive q (con q i) p'
  · obtain ⟨n1, hO⟩ := (alive_iff C').1 hA'
    obtain ⟨hO2, h2⟩ := oa_mono C C' (fun k _ s h => hsub _ s h) hO
    have hA : Alive q (con q i) p := (alive_iff C).2 ⟨fun j hj => by
      obtain ⟨t, h3, h4⟩ := (tb_ne_zero ((C'.sm j (by omega)).in64 (by have := C.work.k; omega))).1 (n1 j (by omega))
      exact (tb_ne_zero ((C.sm j hj).in64 (by have := C.work.k; omega))).2 ⟨t, h3, hsub j t h4⟩, hO2⟩
    obtain ⟨hj, _⟩ := hz.sub h
    obtain ⟨h5, h6⟩ := ((hz.live hA' j hj).2 s).1 h
    refine ((hx.live hA j (by omega)).2 s).2 ⟨hsub j s h5, fun ⟨k, hk, e, h7⟩ => h6 ⟨k, hk, e, h2 k hk s ?_ h7⟩⟩
    show tb (p'.getD ((con q i).cells.getD k 0).toNat 0) s = true
    rw [e]; exact h5
  · rw [hz.dead hA', zat] at h
    exact absurd h tb0
theorem within_ev {a b : List Int} (hl : a.length = b.length) (h256 : a.length ≤ 256) (h : ∀ j s, tb (a.getD j 0) s = true → tb (b.getD j 0) s = true) : Ev (fun n => withinP n a b) true := by
  have key : ∀ (k i n : Nat), i + k = a.length → k + 1 ≤ n → withinP_m a b n (.l1 (i : Int)) = some true := by
    intro k
    induction k with
    | zero =>
      intro i n e hn
      obtain ⟨n, rfl⟩ : ∃ k, n = k + 1 := ⟨n - 1, by omega⟩
      show withinP_l1 n (withinP_m a b n) a b (i : Int) = _
      unfold withinP_l1
      rw [decide_eq_false (by omega), cond_false]
    | succ k ih =>
      intro i n e hn
      obtain ⟨n, rfl⟩ : ∃ k, n = k + 1 := ⟨n - 1, by omega⟩
      have := ih (i + 1) n (by omega) (by omega)
      have e0 : bits .andNot .i64 (a.getD i 0) (b.getD i 0) = 0 := (tb_eq_zero (bits_in .andNot _ _)).2 fun s _ => by
        rw [tb_andNot]
        cases h1 : tb (a.getD i 0) s with
        | false => rfl
        | true => rw [h i s h1]; rfl
      show withinP_l1 n (withinP_m a b n) a b (i : Int) = _
      unfold withinP_l1
      rw [decide_eq_true (by omega), cond_true, if_pos ⟨⟨by omega, by omega⟩, by omega, by omega⟩, Int.toNat_natCast, e0, if_pos (R64_iff.2 ⟨by omega, by omega⟩)]
      exact this
  refine ⟨a.length + 1, fun n hn => ?_⟩
  have e : ((a.length : Int) != (b.length : Int)) = false := by rw [hl]; simp
  show withinP n a b = _
  unfold withinP withinP_l0
  rw [e, cond_false]
  exact key a.length 0 n (by omega) (by omega)
def meetL (a b : List Int) (k : Nat) : List Int := (List.range k).map fun j => bits .and .i64 (a.getD j 0) (b.getD j 0)
theorem meetL_len {a b : List Int} {k : Nat} : (meetL a b k).length = k := by unfold meetL; rw [List.length_map, List.length_range]
theorem meetL_at {a b : List Int} {k j : Nat} (hj : j < k) : (meetL a b k).getD j 0 = bits .and .i64 (a.getD j 0) (b.getD j 0) := by
  unfold meetL
  rw [List.getD_eq_getElem?_getD, List.getElem?_map, List.getElem?_range hj]; rfl
theorem meetL_succ {a b : List Int} {k : Nat} : meetL a b (k + 1) = meetL a b k ++ [bits .and .i64 (a.getD k 0) (b.getD k 0)] := by
  unfold meetL
  rw [List.range_succ, List.map_append]; rfl
theorem meet_ev {a b : List Int} (hl : a.length = b.length) (h0 : 0 < a.length) (h256 : a.length ≤ 256) : Ev (fun n => meetP n a b) (if deadB (meetL a b a.length) then List.replicate a.length 0 else meetL a b a.length, 0) := by
  have L : (1000000000000 : Nat) = LIM := rfl
  have lb : (256 : Nat) ≤ LB := by decide
  have hnorm : ∀ n, 300 ≤ n → normalP n (meetL a b a.length) = some (if deadB (meetL a b a.length) then List.replicate a.length 0 else meetL a b a.length) := fun n hn => by
    have h1 := meetL_len (a := a) (b := b) (k := a.length)
    unfold normalP normalP_l0
    rw [deadP_eq (by omega) (by omega), Option.bind_some]
    cases deadB (meetL a b a.length)
    · rfl
    · rw [cond_true, if_pos ⟨rfl, by omega, by omega⟩, if_pos (by simp), h1]; rfl
  have key : ∀ (m k n : Nat), k + m = a.length → 0 < k → m + 301 ≤ n → meetP_m a b n (.l2 k (k : Int) (meetL a b k)) = some (if deadB (meetL a b a.length) then List.replicate a.length 0 else meetL a b a.length, 0) := by
    intro m
    induction m with
    | zero =>
      intro k n e _ hn
      have e : k = a.length := by omega
      subst e
      obtain ⟨n, rfl⟩ : ∃ k, n = k + 1 := ⟨n - 1, by omega⟩
      show meetP_l2 n (meetP_m a b n) a b a.length (a.length : Int) (meetL a b a.length) = _
      unfold meetP_l2
      rw [decide_eq_false (by omega), cond_false, if_pos meetL_len.symm, hnorm n (by omega)]; rfl
    | succ m ih =>
      intro k n e hk hn
      obtain ⟨n, rfl⟩ : ∃ k, n = k + 1 := ⟨n - 1, by omega⟩
      have := ih (k + 1) n (by omega) (by omega) (by omega)
      show meetP_l2 n (meetP_m a b n) a b k (k : Int) (meetL a b k) = _
      unfold meetP_l2
      rw [decide_eq_true (by omega), cond_true, Int.toNat_natCast, if_pos ⟨⟨by omega, by omega⟩, ⟨by omega, by omega⟩, ⟨⟨rfl, rfl⟩, ⟨rfl, meetL_len.symm⟩, by rw [meetL_len, List.length_singleton, ← L]; omega⟩, R64_iff.2 ⟨by omega, by omega⟩⟩, ← meetL_succ, meetL_len]
      exact this
  refine ⟨a.length + 303, fun n hn => ?_⟩
  obtain ⟨n, rfl⟩ : ∃ k, n = k + 1 := ⟨n - 1, by omega⟩
  have e : ((a.length : Int) != (b.length : Int)) = false := by rw [hl]; simp
  have := key (a.length - 1) 1 n (by omega) (by omega) (by omega)
  show meetP (n + 1) a b = _
  unfold meetP meetP_l0
  rw [e, cond_false]
  show meetP_l1 n (meetP_m a b n) a b = _
  unfold meetP_l1
  rw [decide_eq_true (by omega), cond_true, if_pos ⟨⟨by omega, by omega⟩, ⟨by omega, by omega⟩, ⟨rfl, rfl⟩, by rw [List.length_singleton]; omega, by rw [List.length_singleton, ← L]; omega⟩]
  exact this
end
section
variable {q : ProbD} {i : Int} {a b : List Int}
theorem Ctx.same (C : Ctx q i a) {y : List Int} (hl : y.length = a.length) (h : ∀ j, j < y.length → Sm q.symbols.toNat (y.getD j 0)) : Ctx q i y :=
  ⟨C.fit, C.valid, C.i0, C.i1, (posOk_iff C.valid).2 ⟨by rw [hl]; exact C.len, h⟩⟩
theorem prune_ok (C : Ctx q i a) : ∃ x, Ev (fun n => pruneP n q i a) (x, 0) ∧ PR q (con q i) a x := by
  obtain ⟨r, h1, h2, h3, _⟩ := prune_ev (i := i) C.fit (pos := a) (Nat.le_trans C.len256.2 (by decide))
  obtain ⟨x, e⟩ := r
  have e0 : e = 0 := h2.trans C.check
  subst e0
  exact ⟨x, h1, h3 rfl⟩
theorem prune_bad (hF : Fit q) (hl : a.length ≤ LB) (h : checkV q i a ≠ 0) : ∃ e, e ≠ 0 ∧ Ev (fun n => pruneP n q i a) ([], e) := by
  obtain ⟨r, h1, h2, _, h4⟩ := prune_ev (i := i) hF hl
  obtain ⟨x, e⟩ := r
  have h2 : e = checkV q i a := h2
  have he : e ≠ 0 := by rw [h2]; exact h
  have : x = [] := h4 he
  subst this
  exact ⟨e, he, h1⟩
theorem lawMonotone_true (q : ProbD) (i : Int) (a b : List Int) (hF : Fit q) (hla : a.length ≤ LB) (hlb : b.length ≤ LB) : Ev (fun n => lawMonotone n q i a b) true := by
  refine law_start (q := q) (pos := a) (f := fun n => bif (decide ((b.length : Int) > 20)) then some true else
       (pruneP n q i a).bind fun y3 => (pruneP n q i b).bind fun y4 => bif (y3.2 != 0) then some true else bif (y4.2 != 0) then some true else
           (meetP n a b).bind fun y5 => (pruneP n q i y5.1).bind fun y6 => bif (y5.2 == 0) then (bif (y6.2 == 0) then
               (withinP n y6.1 y3.1).bind fun y7 => bif y7 then (withinP n y6.1 y4.1).bind fun y8 => bif y8 then (withinP n y3.1 a).bind fun y9 => some y9 else some false else some false
              else some false) else some false) (fun n => rfl) ?_
  by_cases h20 : (b.length : Int) > 20
  · exact Ev.now fun n => by rw [decide_eq_true h20]; rfl
  refine Ev.eq ?_ (fun n => by rw [decide_eq_false h20, cond_false])
  by_cases ha : checkV q i a = 0
  · have C := Ctx.of hF ha
    obtain ⟨x, hx1, hx2⟩ := prune_ok C
    refine Ev.bind hx1 ?_
    by_cases hb : checkV q i b = 0
    · have C2 := Ctx.of hF hb
      obtain ⟨y, hy1, hy2⟩ := prune_ok C2
      refine Ev.bind hy1 ?_
      have l1 := C.len
      have l2 := C2.len
      have h256 := C.len256
      refine Ev.eq (f := fun n => (meetP n a b).bind fun y5 => (pruneP n q i y5.1).bind fun y6 => bif (y5.2 == 0) then (bif (y6.2 == 0) then
               (withinP n y6.1 x).bind fun y7 => bif y7 then (withinP n y6.1 y).bind fun y8 => bif y8 then (withinP n x a).bind fun y9 => some y9 else some false else some false
              else some false) else some false) ?_ (fun n => rfl)
      refine Ev.bind (meet_ev (by omega) h256.1 h256.2) ?_
      generalize hm : (if deadB (meetL a b a.length) then List.replicate a.length 0 else meetL a b a.length) = m
      have ml : m.length = a.length := by
        rw [← hm]; split
        · exact List.length_replicate
        · exact meetL_len
      have mb : ∀ j s, tb (m.getD j 0) s = true → tb (a.getD j 0) s = true ∧ tb (b.getD j 0) s = true := fun j s h => by
        rw [← hm] at h
        split at h
        · rw [zat] at h; exact absurd h tb0
        · by_cases hj : j < a.length
          · rw [meetL_at hj, tb_and, Bool.and_eq_true] at h; exact h
          · rw [List.getD_eq_getElem?_getD, List.getElem?_eq_none (by rw [meetL_len]; omega)] at h
            exact absurd h tb0
      have CM : Ctx q i m := C.same ml fun j hj => by
        have : In64 (m.getD j 0) := by
          rw [← hm]; split
          · rw [zat]; exact ⟨by decide, by decide⟩
          · rw [meetL_at (by omega)]; exact bits_in _ _ _
        refine sm_of (by have := C.work.k; omega) this fun s hs _ => ?_
        cases h : tb (m.getD j 0) s with
        | false => rfl
        | true =>
          have := (mb j s h).1
          rw [(C.sm j (by omega)).hi hs] at this; cases this
      obtain ⟨z, hz1, hz2⟩ := prune_ok CM
      refine Ev.eq (f := fun n => (pruneP n q i m).bind fun y6 => bif (y6.2 == 0) then
               (withinP n y6.1 x).bind fun y7 => bif y7 then (withinP n y6.1 y).bind fun y8 => bif y8 then (withinP n x a).bind fun y9 => some y9 else some false else some false
              else some false) ?_ (fun n => rfl)
      refine Ev.bind hz1 ?_
      have zl : z.length = a.length := by rw [hz2.len]; exact ml
      refine Ev.eq (f := fun n => (withinP n z x).bind fun y7 => bif y7 then (withinP n z y).bind fun y8 => bif y8 then (withinP n x a).bind fun y9 => some y9 else some false else some false) ?_ (fun n => rfl)
      refine Ev.bind (within_ev (by rw [zl, hx2.len]) (by omega) (pr_mono C CM (fun j s h => (mb j s h).1) hx2 hz2)) ?_
      refine Ev.eq (f := fun n => (withinP n z y).bind fun y8 => bif y8 then (withinP n x a).bind fun y9 => some y9 else some false) ?_ (fun n => rfl)
      refine Ev.bind (within_ev (by rw [zl, hy2.len]; omega) (by omega) (pr_mono C2 CM (fun j s h => (mb j s h).2) hy2 hz2)) ?_
      refine Ev.eq (f := fun n => (withinP n x a).bind fun y9 => some y9) ?_ (fun n => rfl)
      exact Ev.bind (within_ev hx2.len (by rw [hx2.len]; omega) fun j s h => (hx2.sub h).2) (Ev.now fun n => rfl)
    · obtain ⟨e, he, h1⟩ := prune_bad hF hlb hb
      refine Ev.bind h1 (Ev.now fun n => ?_)
      have : (e != 0) = true := by simpa using he
      show (bif ((0 : Int) != 0) then some true else bif (e != 0) then some true else _) = some true
      rw [this]; rfl
  · obtain ⟨e, he, h1⟩ := prune_bad hF hla ha
    refine Ev.bind h1 ?_
    have hne : (e != 0) = true := by simpa using he
    obtain ⟨r, h2, _⟩ := prune_ev (i := i) hF hlb
    refine Ev.bind h2 (Ev.now fun n => ?_)
    show (bif (e != 0) then some true else _) = some true
    rw [hne]; rfl
end
end Go.Proofs.YtekkngkphejfcaaDoor
namespace Go.Proofs.YtekkngkphejfcaaDoor.pruneMonotone
open Go.ChangeShapes Go.WideShapes Go.ChangeAt Go.RowKit
set_option maxRecDepth 100000 in
theorem contract (H : Type) (enc : TypeId × Value → H) (W : World) (base : Nat) (args : Array Value) (ds gs : List (DataW H)) (before : List MemPlace)
    (hval : ∀ (j : Nat) t v, Tryd.f6.params[j]? = some t → args[j]? = some v → Value.okWide Tryd.prog W .any base t v)
    (hW : DataW.Whole enc Tryd.prog Tryd.f6.params.toList Rows.pruneMonotoneSpec.vars false W args.toList ds gs before)
    (hsz : (DataW.weightsEach Tryd.prog Tryd.f6.params.toList ds).all (· ≤ reachBytes) = true) (hL : laidMetH Tryd.prog Rows.pruneMonotoneRow.laid W) :
    Calls Tryd.prog 6 args W fun e W' => ∃ v, e = .returned v ∧ Rows.pruneMonotoneSpec.post enc Tryd.prog Tryd.f6 false true false false W args v W' := by
  have hW' := hW
  obtain ⟨p, q, hA0, hV, rfl, hfz, hnd⟩ := hW
  have hA : DataW.TrodAll enc Tryd.prog W 0 (fun _ => true) true Tryd.f6.params.toList args.toList ds p := hA0
  rw [Tryd.params6] at hA
  obtain ⟨v0, vs0, d0, ds0, p0, q0, hargs, rfl, rfl, _, r0⟩ := trodAll_cons hA
  obtain ⟨v1, vs1, d1, ds1, p1, q1, rfl, rfl, rfl, _, r1⟩ := trodAll_cons r0
  obtain ⟨v2, vs2, d2, ds2, p2, q2, rfl, rfl, rfl, _, r2⟩ := trodAll_cons r1
  obtain ⟨v3, vs3, d3, ds3, p3, q3, rfl, rfl, rfl, _, r3⟩ := trodAll_cons r2
  obtain ⟨rfl, rfl, rfl⟩ := trodAll_nil r3
  obtain ⟨rfl, rfl⟩ := trodVars_none hV
  refine law_calls (Γ := GG) (s := Rows.pruneMonotoneSpec) (tb := 4) (dv := fun y : ProbD × Int × List Int × List Int × Unit => [.agg 5 (L1 (probC y.1)), .int .i64 y.2.1, .ints y.2.2.1, .ints y.2.2.2.1]) laidOutP ?_ ?_ ?_ hval hW' rfl rfl (by kernel_rfl) Tryd.underlying4 hsz (table_gi hL)
  · rw [Tryd.params6]
    intro t ht
    simp only [Array.toList, List.mem_cons, List.not_mem_nil, or_false] at ht
    rcases ht with rfl | rfl | rfl | rfl
    · exact ⟨by kernel_rfl, Nat.le_of_ble_eq_true (by kernel_rfl)⟩
    · exact ⟨by kernel_rfl, Nat.le_of_ble_eq_true (by kernel_rfl)⟩
    · exact ⟨by kernel_rfl, Nat.le_of_ble_eq_true (by kernel_rfl)⟩
    · exact ⟨by kernel_rfl, Nat.le_of_ble_eq_true (by kernel_rfl)⟩
  · rw [Tryd.params6]
    exact ArgsV.cons rvProb (ArgsV.cons rvInt (ArgsV.cons rvInts (ArgsV.cons rvInts ArgsV.nil)))
  · intro w y hy
    obtain ⟨n, hn⟩ := lawMonotone_true y.1 y.2.1 y.2.2.1 y.2.2.2.1 (Fit.of (hy 0)) (ints_le (hy 2)) (ints_le (hy 3))
    exact lawMonotone_ok (hn n (Nat.le_refl _))
theorem laid_met (os : Os) : laidMet Tryd.prog Rows.pruneMonotoneRow.laid ((laidWorld os).forCall (fun _ _ => 0) ⟨#[], #[prob0, .int .i64 0, .slice none 0 0, .slice none 0 0], []⟩).memory :=
  laidMet_of_run' 70 (by kernel_rfl) (by kernel_rfl)
theorem reads (os : Os) {H : Type} (enc : TypeId × Value → H) : ∃ places, DataW.whole enc Tryd.prog ((laidWorld os).forCall (fun _ _ => 0) ⟨#[], #[prob0, .int .i64 0, .slice none 0 0, .slice none 0 0], []⟩).memory Tryd.f6.params.toList Rows.pruneMonotoneSpec.vars false #[prob0, Value.int .i64 0, Value.slice none 0 0, Value.slice none 0 0].toList 16 = some ([.agg [.lit (.int .i64 0), .lit (.int .i64 0), .nil, .nil, .nil], .lit (.int .i64 0), .nil, .nil], [], places) :=
  ⟨[], by kernel_rfl⟩
set_option maxRecDepth 100000 in
theorem lifted (os : Os) (started : os.Started) (H : Type) (enc : TypeId × Value → H) (F : Stop.Interp) :
    ReturnsInHanded {} Tryd.checked os 6 .any ((OpenSpec.ofChange Rows.pruneMonotoneSpec).preRow enc Tryd.prog Tryd.f6 Rows.pruneMonotoneRow.domain false Rows.pruneMonotoneRow.laid) (((OpenSpec.ofChange Rows.pruneMonotoneSpec).at F).post enc Tryd.prog Tryd.f6 false true false false) := by
  obtain ⟨places, hx⟩ := reads os enc
  refine returnsInHanded_of_row (C := Tryd.checked) (s := OpenSpec.ofChange Rows.pruneMonotoneSpec) own started (by kernel_rfl) Tryd.func6
    (witness_row_at (enc := enc) (C := Tryd.checked) false (laidWorld os) #[prob0, .int .i64 0, .slice none 0 0, .slice none 0 0] rfl (by kernel_rfl) (by kernel_rfl) (by kernel_rfl)
      (OpenSpec.preRow_of_cond 16 hx (by kernel_rfl) (fun k hk => by cases hk) (by kernel_rfl) (laid_met os))) ?_
  intro W base args ds gs before hval hW _ _ hsz hL _ _
  refine contract H enc W base args ds gs before hval hW ?_ hL
  have h1 := hW
  obtain ⟨p, q, _, hV, _⟩ := h1
  obtain ⟨rfl, _⟩ := trodVars_none hV
  have e : (DataW.weightsEach Tryd.prog (Tryd.f6.params.toList ++ []) (ds ++ [])).all (· ≤ reachBytes) = true := hsz
  rw [List.append_nil, List.append_nil] at e
  exact e
theorem said : Rows.PruneMonotoneSaid :=
  OpenClaim.holds_of_cond 6 Tryd.f6 rfl rfl rfl rfl rfl rfl rfl ⟨rfl, rfl, rfl, rfl, rfl⟩ rfl rfl rfl rfl rfl (by kernel_rfl) Tryd.func6 (by kernel_rfl)
    (of_decide_eq_true (by kernel_rfl)) (by unfold Func.isWrapper; first | (rw [if_pos (by decide +kernel)]; kernel_rfl) | (rw [if_neg (by decide +kernel)]; exact ⟨rfl, rfl⟩))
    (fun os started H enc _ F => by rw [OpenClaim.pre_eq_preRow]; exact lifted os started H enc F)
theorem plain (f : FuncId) (fn : Func) (hf : Tryd.pinned.checked.prog.funcNamed "gridwright/gridwrightlaw26.PruneMonotone" = some f) (hfn : Tryd.pinned.checked.prog.funcs[f]? = some fn) :
    false = Tryd.pinned.checked.prog.looks [] ∧ ∀ (j : Nat) t, fn.params[j]? = some t → Tryd.pinned.checked.prog.wantsStandIn t = false := by
  obtain rfl : f = 6 := Option.some.inj ((show Tryd.prog.funcNamed "gridwright/gridwrightlaw26.PruneMonotone" = some 6 by kernel_rfl).symm.trans hf) |>.symm
  obtain rfl : fn = Tryd.f6 := (Option.some.inj (Tryd.func6.symm.trans hfn)).symm
  refine ⟨by kernel_rfl, fun j t ht => ?_⟩
  rw [Tryd.params6] at ht
  have ht := Array.mem_of_getElem? ht
  simp only [Array.mem_def, Array.toList, List.mem_cons, List.not_mem_nil, or_false] at ht
  rcases ht with rfl | rfl | rfl | rfl
  · exact (show Tryd.prog.wantsStandIn 26 = false by kernel_rfl)
  · exact (show Tryd.prog.wantsStandIn 3 = false by kernel_rfl)
  · exact (show Tryd.prog.wantsStandIn 22 = false by kernel_rfl)
  · exact (show Tryd.prog.wantsStandIn 22 = false by kernel_rfl)
end Go.Proofs.YtekkngkphejfcaaDoor.pruneMonotone
namespace Go.Proofs.YtekkngkphejfcaaDoor
open Go.ChangeShapes Go.WideShapes Go.ChangeAt Go.RowKit
/-- The card. -/
theorem pruneMonotone_card : Rows.PruneMonotoneCardSaid :=
  Claim7.holds_tied_plain_at .later [] _ _ _ _ pruneMonotone.said (fun _ h => by cases h) (by kernel_rfl) (fun _ h => by cases h) pruneMonotone_row_tie rfl ⟨rfl, rfl⟩ (by kernel_rfl) rfl pruneMonotone.plain (by kernel_rfl)
end Go.Proofs.YtekkngkphejfcaaDoor
