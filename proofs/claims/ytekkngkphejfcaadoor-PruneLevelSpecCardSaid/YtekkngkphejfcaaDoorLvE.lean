/- Part 5 of 5 of what the proofs of these laws stand on. -/
import Derived.Test.YtekkngkphejfcaaDoorLvD
import Derived.Test.YtekkngkphejfcaaDoorCards
import Derived.Test.YtekkngkphejfcaaDoorTie
set_option linter.all false
namespace Go.Proofs.YtekkngkphejfcaaDoor
def inRng (lo hi : Int) (n : Int) : Bool := decide (lo ≤ n) && decide (n ≤ hi)
def within (xs : List Int) (lo hi : Int) : Bool := xs.all (inRng lo hi)
def nodeOk (g : List (List Int)) (i : Nat) (l : List Int) (k : Nat) : Bool :=
  let n := l.getD k 0
  decide (0 ≤ n) && decide (n < g.length) && (n != i) && (!decide (0 < k) || decide (l.getD (k-1) 0 < n)) && (g.getD n.toNat []).contains (i : Int)
def rowOk (g : List (List Int)) (i : Nat) (l : List Int) : Bool := (List.range l.length).all (nodeOk g i l)
def graphOk (g : List (List Int)) : Bool := decide (g.length ≤ 256) && (List.range g.length).all fun i => rowOk g i (g.getD i [])
def cellOk (n kind : Int) (cells : List Int) (i : Nat) : Bool :=
  let x := cells.getD i 0
  decide (0 ≤ x) && decide (x < n) && !(cells.take i).contains x && (!decide (8 ≤ kind) || x == (i : Int))
def cellsOk (n kind : Int) (cells : List Int) : Bool := (List.range cells.length).all (cellOk n kind cells)
def kindOk (n kind : Int) (len : Nat) : Bool :=
  (decide (1 ≤ kind) && decide (kind ≤ 5)) || ((kind == 6 || kind == 7) && len == 2) || ((kind == 8 || kind == 9) && (len : Int) == n)
def fineB (q : ProbD) (c : ConsD) : Bool :=
  cellsOk q.cells c.kind c.cells && kindOk q.cells c.kind c.cells.length &&
  within [c.set, c.other] 0 (2 ^ q.symbols.toNat - 1) && within [c.lo, c.hi] 0 65536 && decide (c.runs.length ≤ 8) && within c.runs 1 256
def nodupB (l : List Int) : Bool := (List.range l.length).all fun i => !(l.take i).contains (l.getD i 0)
/-- The reference's word on a constraint. -/
def rfineB (c : ConsD) (n sy : Int) : Bool :=
  (decide (1 ≤ c.kind) && decide (c.kind ≤ 9)) && decide ((c.cells.length : Int) ≤ n) && within c.cells 0 (n - 1) && nodupB c.cells &&
  (!(c.kind == 6 || c.kind == 7) || c.cells.length == 2) && (!(c.kind == 8 || c.kind == 9) || ((c.cells.length : Int) == n)) &&
  (!(c.kind == 8 || c.kind == 9) || (List.range c.cells.length).all fun i => c.cells.getD i 0 == (i : Int)) &&
  within [c.set, c.other] 0 (2 ^ sy.toNat - 1) && within [c.lo, c.hi] 0 65536 && decide (c.runs.length ≤ 8) && within c.runs 1 256
theorem nodup_le : ∀ (n : Nat) (l : List Int), l.Nodup → (∀ x ∈ l, 0 ≤ x ∧ x < (n : Int)) → l.length ≤ n
  | 0, l, _, h => by
    cases l with
    | nil => simp
    | cons a l => have := h a (by simp); omega
  | n + 1, l, hd, h => by
    have h1 : (l.erase (n : Int)).length ≤ n := nodup_le n _ (hd.erase _) (fun x hx => by
      have := hd.mem_erase_iff.1 hx
      have h2 := h x this.2
      have h3 := this.1
      omega)
    by_cases hm : (n : Int) ∈ l
    · have := List.length_erase_of_mem hm
      omega
    · rw [List.erase_of_not_mem hm] at h1; omega
theorem nodupB_iff {l : List Int} : nodupB l = true ↔ l.Nodup := by
  unfold nodupB List.Nodup
  rw [List.all_eq_true, List.pairwise_iff_getElem]
  constructor
  · intro h i j hi hj hij e
    have := h j (by simpa using hj)
    simp only [List.getD_eq_getElem?_getD, List.getElem?_eq_getElem hj, Option.getD_some, Bool.not_eq_true'] at this
    rw [Bool.eq_false_iff, ne_eq, List.contains_iff_mem, List.mem_take_iff_getElem] at this
    exact this ⟨i, by omega, e⟩
  · intro h i hi
    have hi' : i < l.length := by simpa using hi
    simp only [List.getD_eq_getElem?_getD, List.getElem?_eq_getElem hi', Option.getD_some, Bool.not_eq_true']
    rw [Bool.eq_false_iff, ne_eq, List.contains_iff_mem, List.mem_take_iff_getElem]
    rintro ⟨j, hj, e⟩
    exact h j i (by omega) hi' (by omega) e
theorem within_iff {l : List Int} {lo hi : Int} : within l lo hi = true ↔ ∀ x ∈ l, lo ≤ x ∧ x ≤ hi := by
  unfold within; simp [inRng]
theorem cellsOk_iff {n kind : Int} {cells : List Int} : cellsOk n kind cells = true ↔ (∀ x ∈ cells, 0 ≤ x ∧ x < n) ∧ cells.Nodup ∧ (8 ≤ kind → ∀ j, j < cells.length → cells.getD j 0 = (j : Int)) := by
  rw [← nodupB_iff]
  unfold cellsOk nodupB cellOk
  simp only [List.all_eq_true, List.mem_range, Bool.and_eq_true, decide_eq_true_eq, Bool.or_eq_true, Bool.not_eq_true', beq_iff_eq, decide_eq_false_iff_not]
  constructor
  · intro h
    refine ⟨fun x hx => ?_, fun j hj => (h j hj).1.2, fun h8 j hj => ?_⟩
    · obtain ⟨j, hj, rfl⟩ := List.getElem_of_mem hx
      have := (h j hj).1.1
      simpa [hj] using this
    · rcases (h j hj).2 with h' | h'
      · exact absurd h8 h'
      · exact h'
  · rintro ⟨h1, h2, h3⟩ j hj
    have hx := h1 _ (List.getElem_mem hj)
    refine ⟨⟨by simpa [hj] using hx, h2 j hj⟩, ?_⟩
    by_cases h8 : 8 ≤ kind
    · exact .inr (h3 h8 j hj)
    · exact .inl h8
theorem rfine_eq (q : ProbD) (c : ConsD) (h1 : 1 ≤ q.cells) : rfineB c q.cells q.symbols = fineB q c := by
  rw [Bool.eq_iff_iff]
  unfold rfineB fineB
  simp only [Bool.and_eq_true, cellsOk_iff, nodupB_iff, within_iff (l := c.cells), Bool.or_eq_true, Bool.not_eq_true', Bool.or_eq_false_iff, beq_iff_eq, beq_eq_false_iff_ne, decide_eq_true_eq, List.all_eq_true, List.mem_range, kindOk]
  constructor
  · rintro ⟨⟨⟨⟨⟨⟨⟨⟨⟨⟨⟨k1, k2⟩, k3⟩, k4⟩, k5⟩, k6⟩, k7⟩, k8⟩, k9⟩, k10⟩, k11⟩, k12⟩
    refine ⟨⟨⟨⟨⟨⟨fun x hx => ⟨(k4 x hx).1, by have := (k4 x hx).2; omega⟩, k5, fun h8 => ?_⟩, ?_⟩, k9⟩, k10⟩, k11⟩, k12⟩
    · rcases k8 with h | h
      · omega
      · exact h
    · rcases k6 with h6 | h6 <;> rcases k7 with h7 | h7
      · left; left; omega
      · by_cases h : c.kind = 8 ∨ c.kind = 9
        · right; exact ⟨h, h7⟩
        · left; left; omega
      · by_cases h : c.kind = 6 ∨ c.kind = 7
        · left; right; exact ⟨h, h6⟩
        · left; left; omega
      · by_cases h : c.kind = 6 ∨ c.kind = 7
        · left; right; exact ⟨h, h6⟩
        · by_cases h2 : c.kind = 8 ∨ c.kind = 9
          · right; exact ⟨h2, h7⟩
          · left; left; omega
  · rintro ⟨⟨⟨⟨⟨⟨k1, k2, k3⟩, k4⟩, k9⟩, k10⟩, k11⟩, k12⟩
    have hlen : (c.cells.length : Int) ≤ q.cells := by
      have := nodup_le q.cells.toNat c.cells k2 (fun x hx => by have := k1 x hx; omega)
      omega
    refine ⟨⟨⟨⟨⟨⟨⟨⟨⟨⟨⟨by omega, by omega⟩, hlen⟩, fun x hx => ⟨(k1 x hx).1, by have := (k1 x hx).2; omega⟩⟩, k2⟩, ?_⟩, ?_⟩, ?_⟩, k9⟩, k10⟩, k11⟩, k12⟩
    · rcases k4 with (h | h) | h
      · left; omega
      · right; exact h.2
      · left; omega
    · rcases k4 with (h | h) | h
      · left; omega
      · left; omega
      · right; exact h.2
    · by_cases h8 : 8 ≤ c.kind
      · right; exact k3 h8
      · left; omega
def validB (q : ProbD) : Bool :=
  decide (1 ≤ q.cells) && decide (q.cells ≤ 256) && decide (1 ≤ q.symbols) && decide (q.symbols ≤ 16) && ((q.values.length : Int) == q.symbols) && within q.values 0 99 &&
  ((q.nbrs.length : Int) == q.cells) && graphOk q.nbrs && decide (q.cons.length ≤ 4096) && q.cons.all (fineB q)
def lvl (kind : Int) : Int := if kind = 3 ∨ kind = 4 then 2 else if kind = 5 then 3 else if kind = 8 ∨ kind = 9 then 4 else 1
/-- Level's answer: a level and an error. -/
def levelM (q : ProbD) (i : Int) : Int × Int :=
  if validB q = false then (0, 191) else if 0 ≤ i ∧ i < q.cons.length then (lvl ((q.cons.getD i.toNat default).kind), 0) else (0, 260)
theorem validB_parts {q : ProbD} (h : validB q = true) : (1 ≤ q.cells ∧ q.cells ≤ 256) ∧ (1 ≤ q.symbols ∧ q.symbols ≤ 16) ∧ ((q.values.length : Int) = q.symbols ∧ within q.values 0 99 = true) ∧
    ((q.nbrs.length : Int) = q.cells ∧ graphOk q.nbrs = true) ∧ q.cons.length ≤ 4096 ∧ ∀ c ∈ q.cons, fineB q c = true := by
  unfold validB at h
  simp only [Bool.and_eq_true, decide_eq_true_eq, beq_iff_eq, List.all_eq_true] at h
  obtain ⟨⟨⟨⟨⟨⟨⟨⟨⟨h1, h2⟩, h3⟩, h4⟩, h5⟩, h6⟩, h7⟩, h8⟩, h9⟩, h10⟩ := h
  exact ⟨⟨h1, h2⟩, ⟨h3, h4⟩, ⟨h5, h6⟩, ⟨h7, h8⟩, h9, h10⟩
theorem kind_of_fine {q : ProbD} {c : ConsD} (h : fineB q c = true) : kindOk q.cells c.kind c.cells.length = true := by
  unfold fineB at h; simp only [Bool.and_eq_true] at h; exact h.1.1.1.1.2
theorem kind_range {n kind : Int} {len : Nat} (h : kindOk n kind len = true) : 1 ≤ kind ∧ kind ≤ 9 := by
  unfold kindOk at h; simp at h; omega
theorem kind_cases {k : Int} (h : 1 ≤ k ∧ k ≤ 9) : k = 1 ∨ k = 2 ∨ k = 3 ∨ k = 4 ∨ k = 5 ∨ k = 6 ∨ k = 7 ∨ k = 8 ∨ k = 9 := by omega
end Go.Proofs.YtekkngkphejfcaaDoor
namespace Go.Proofs.YtekkngkphejfcaaDoor
open Go.RowKit
/-- A loop over an index: what it answers first, or what follows behind the last round. -/
theorem scan_ok {R : Type} (m : Nat → Int → Option R) (len N0 : Nat) (B : Nat → Option R) (h0 : ∀ (n i : Nat), N0 ≤ n → i < len → m (n + 1) (i : Int) = (B i).or (m n ((i : Int) + 1))) :
    ∀ (k i n : Nat), i + k = len → N0 ≤ n → m (n + k) (i : Int) = ((List.range' i k).findSome? B).or (m n (len : Int))
  | 0, i, n, h, hn => by
    have : i = len := by omega
    subst this; rfl
  | k + 1, i, n, h, hn => by
    show m (n + k + 1) (i : Int) = _
    rw [h0 (n + k) i (by omega) (by omega), List.range'_succ, List.findSome?_cons]
    cases B i with
    | some r => rfl
    | none =>
      have := scan_ok m len N0 B h0 k (i + 1) n (by omega) hn
      rw [← this]
      simp
theorem scan0 {R : Type} (m : Nat → Int → Option R) (len N0 : Nat) (B : Nat → Option R) (h0 : ∀ (n i : Nat), N0 ≤ n → i < len → m (n + 1) (i : Int) = (B i).or (m n ((i : Int) + 1))) {n : Nat} (hn : N0 + len ≤ n) :
    m n 0 = ((List.range len).findSome? B).or (m (n - len) (len : Int)) := by
  have := scan_ok m len N0 B h0 len 0 (n - len) (by omega) (by omega)
  rw [Nat.sub_add_cancel (by omega)] at this
  rw [List.range_eq_range']
  exact this
/-- Loops that answer one thing where a test fails. -/
theorem find_all {R : Type} {l : List Nat} {p : Nat → Bool} {r : R} : (l.findSome? fun i => if p i then none else some r) = if l.all p then none else some r := by
  induction l with
  | nil => rfl
  | cons a l ih =>
    rw [List.findSome?_cons, List.all_cons]
    cases hp : p a
    · simp
    · simp [ih]
theorem range_getD_all {α : Type} {l : List α} {d : α} {p : α → Bool} : ((List.range l.length).all fun i => p (l.getD i d)) = l.all p := by
  rw [Bool.eq_iff_iff, List.all_eq_true, List.all_eq_true]
  constructor
  · intro h x hx
    obtain ⟨i, hi, rfl⟩ := List.getElem_of_mem hx
    have := h i (by simpa using hi)
    simpa [hi] using this
  · intro h i hi
    have hi' : i < l.length := by simpa using hi
    simp [hi', h _ (List.getElem_mem hi')]
theorem r64 {i len : Nat} (h : i < len) (hl : len ≤ LB) : R64 ((i : Int) + 1) := by rw [R64_iff]; unfold LB at hl; omega
theorem between_eq {l : List Int} {lo up : Int} {n : Nat} (hl : l.length ≤ LB) (hn : l.length < n) : between n l lo up = some (within l lo up) := by
  unfold between between_l0
  have S := scan0 (fun n i => between_m l lo up n (.l1 i)) l.length 0 (fun i => if inRng lo up (l.getD i 0) then none else some false) (fun n i _ hi => ?_) (n := n) (by omega)
  · refine S.trans ?_
    rw [find_all, range_getD_all (p := inRng lo up)]
    unfold within
    cases l.all (inRng lo up) with
    | false => rfl
    | true =>
      obtain ⟨m, hm⟩ : ∃ m, n - l.length = m + 1 := ⟨n - l.length - 1, by omega⟩
      rw [hm]
      simp [between_m, between_l1]
  · have h1 : (i : Int) < (l.length : Int) := by omega
    have h2 := r64 hi hl
    simp only [between_m, between_l1, h1, h2, decide_true, cond_true, Int.natCast_nonneg, and_self, if_true, Int.toNat_natCast, inRng]
    obtain ⟨x, hg⟩ : ∃ y, l.getD i 0 = y := ⟨_, rfl⟩
    simp only [hg]
    by_cases a : x < lo
    · have : ¬ lo ≤ x := by omega
      simp [a, this]
    · have a' : lo ≤ x := by omega
      by_cases b : up < x
      · have : ¬ x ≤ up := by omega
        simp [a, b, a', this]
      · have b' : x ≤ up := by omega
        simp [a, b, a', b']
theorem indexOut_eq {l : List Int} {lo up : Int} {n : Nat} (hl : l.length ≤ LB) (hn : l.length < n) : ∃ r : Int, indexOut n l lo up = some r ∧ (0 ≤ r ↔ within l lo up = false) := by
  unfold indexOut indexOut_l0
  have S := scan0 (fun n i => indexOut_m l lo up n (.l1 i)) l.length 0 (fun i => if inRng lo up (l.getD i 0) then none else some (i : Int)) (fun n i _ hi => ?_) (n := n) (by omega)
  · have S := S
    rw [show indexOut_m l lo up n (.l1 0) = _ from S]
    cases hf : (List.range l.length).findSome? (fun i => if inRng lo up (l.getD i 0) then none else some (i : Int)) with
    | some r =>
      refine ⟨r, rfl, ?_⟩
      obtain ⟨i, hi, hr⟩ := List.exists_of_findSome?_eq_some hf
      have hi' : i < l.length := by simpa using hi
      split at hr
      · cases hr
      · rename_i hx
        cases hr
        refine ⟨fun _ => ?_, fun _ => by omega⟩
        unfold within
        rw [List.all_eq_false]
        exact ⟨l[i], List.getElem_mem hi', by simpa [hi'] using hx⟩
    | none =>
      obtain ⟨m, hm⟩ : ∃ m, n - l.length = m + 1 := ⟨n - l.length - 1, by omega⟩
      refine ⟨-1, by rw [hm]; simp [indexOut_m, indexOut_l1], ?_⟩
      rw [List.findSome?_eq_none_iff] at hf
      have : within l lo up = true := by
        unfold within
        rw [← range_getD_all (p := inRng lo up) (d := (0 : Int)), List.all_eq_true]
        intro i hi
        have := hf i hi
        cases hc : inRng lo up (l.getD i 0) with
        | true => rfl
        | false => rw [hc] at this; simp at this
      simp [this]
  · have h1 : (i : Int) < (l.length : Int) := by omega
    have h2 := r64 hi hl
    simp only [indexOut_m, indexOut_l1, wiOut, wiOut_l0, h1, h2, decide_true, cond_true, Int.natCast_nonneg, and_self, if_true, Int.toNat_natCast, inRng]
    obtain ⟨x, hg⟩ : ∃ y, l.getD i 0 = y := ⟨_, rfl⟩
    simp only [hg]
    by_cases a : x < lo
    · have : ¬ lo ≤ x := by omega
      simp [a, this]
    · have a' : lo ≤ x := by omega
      by_cases b : up < x
      · have : ¬ x ≤ up := by omega
        simp [a, b, a', this]
      · have b' : x ≤ up := by omega
        simp [a, b, a', b']
theorem pzwithin_eq {l : List Int} {lo up : Int} {n : Nat} (hl : l.length ≤ LB) (hn : l.length < n) : pzwithin n l lo up = some (within l lo up) := by
  obtain ⟨r, h1, h2⟩ := indexOut_eq (lo := lo) (up := up) hl hn
  unfold pzwithin pzwithin_l0 containsOut containsOut_l0
  rw [h1]
  cases hw : within l lo up with
  | true => have : ¬ 0 ≤ r := fun h => by rw [h2.1 h] at hw; cases hw
            simp [this]
  | false => have : 0 ≤ r := h2.2 hw
             simp [this]
theorem has_eq {l : List Int} {x : Int} {n : Nat} (hl : l.length ≤ LB) (hn : l.length < n) : has n l x = some (l.contains x) := by
  unfold has has_l0
  have S := scan0 (fun n i => has_m l x n (.l1 i)) l.length 0 (fun i => if (l.getD i 0 != x) then none else some true) (fun n i _ hi => ?_) (n := n) (by omega)
  · refine S.trans ?_
    rw [find_all, range_getD_all (p := fun y => y != x)]
    have e : l.all (fun y => y != x) = !l.contains x := by
      rw [Bool.eq_iff_iff]; simp
      exact ⟨fun h hx => h x hx rfl, fun h y hy e => h (e ▸ hy)⟩
    rw [e]
    cases l.contains x with
    | true => rfl
    | false =>
      obtain ⟨m, hm⟩ : ∃ m, n - l.length = m + 1 := ⟨n - l.length - 1, by omega⟩
      rw [hm]
      simp [has_m, has_l1]
  · have h1 : (i : Int) < (l.length : Int) := by omega
    have h2 := r64 hi hl
    simp only [has_m, has_l1, h1, h2, decide_true, cond_true, Int.natCast_nonneg, and_self, if_true, Int.toNat_natCast]
    obtain ⟨y, hg⟩ : ∃ y, l.getD i 0 = y := ⟨_, rfl⟩
    simp only [hg]
    by_cases a : y = x
    · simp [a]
    · have : (y == x) = false := by simp [a]
      simp [this, a]
theorem containsI_eq {l : List Int} {x : Int} {n : Nat} (hl : l.length ≤ LB) (hn : l.length < n) : containsI n l x = some (l.contains x) := by
  have : ∃ r : Int, indexI n l x = some r ∧ (0 ≤ r ↔ l.contains x = true) := by
    unfold indexI indexI_l0
    have S := scan0 (fun n i => indexI_m l x n (.l1 i)) l.length 0 (fun i => if (x != l.getD i 0) then none else some (i : Int)) (fun n i _ hi => ?_) (n := n) (by omega)
    · rw [show indexI_m l x n (.l1 0) = _ from S]
      cases hf : (List.range l.length).findSome? (fun i => if (x != l.getD i 0) then none else some (i : Int)) with
      | some r =>
        refine ⟨r, rfl, ?_⟩
        obtain ⟨i, hi, hr⟩ := List.exists_of_findSome?_eq_some hf
        have hi' : i < l.length := by simpa using hi
        split at hr
        · cases hr
        · rename_i hx
          cases hr
          refine ⟨fun _ => ?_, fun _ => by omega⟩
          have : x = l[i] := by simpa [hi'] using hx
          rw [this]
          simp
      | none =>
        obtain ⟨m, hm⟩ : ∃ m, n - l.length = m + 1 := ⟨n - l.length - 1, by omega⟩
        refine ⟨-1, by rw [hm]; simp [indexI_m, indexI_l1], ?_⟩
        rw [List.findSome?_eq_none_iff] at hf
        have : l.contains x = false := by
          rw [Bool.eq_false_iff]
          intro h
          obtain ⟨i, hi, e⟩ := List.getElem_of_mem (by simpa using h : x ∈ l)
          have := hf i (by simpa using hi)
          simp [hi, e] at this
        rw [this]
        simp
    · have h1 : (i : Int) < (l.length : Int) := by omega
      have h2 := r64 hi hl
      simp only [indexI_m, indexI_l1, h1, h2, decide_true, cond_true, Int.natCast_nonneg, and_self, if_true, Int.toNat_natCast]
      obtain ⟨y, hg⟩ : ∃ y, l.getD i 0 = y := ⟨_, rfl⟩
      simp only [hg]
      by_cases a : x = y
      · simp [a]
      · have : (x == y) = false := by simp [a]
        simp [this, a]
  obtain ⟨r, h1, h2⟩ := this
  unfold containsI containsI_l0
  rw [h1]
  by_cases h : 0 ≤ r
  · have := h2.1 h
    simp only [Option.bind_some]
    rw [this]
    simp [h]
  · have : l.contains x = false := by rw [Bool.eq_false_iff]; exact fun hc => h (h2.2 hc)
    simp only [Option.bind_some]
    rw [this]
    simp; omega
end Go.Proofs.YtekkngkphejfcaaDoor
namespace Go.Proofs.YtekkngkphejfcaaDoor
open Go.RowKit
def wid (g : List (List Int)) : Nat := (g.map fun r => r.length + 2).sum
theorem wid_mem : ∀ {g : List (List Int)} {r : List Int}, r ∈ g → r.length + 2 ≤ wid g
  | [], _, h => by cases h
  | a :: g, r, h => by
    simp only [wid, List.map_cons, List.sum_cons]
    rcases List.mem_cons.1 h with rfl | h
    · omega
    · have := wid_mem h
      unfold wid at this; omega
theorem wid_drop {g : List (List Int)} {v : Nat} (hv : v < g.length) : wid (g.drop v) = (g.getD v []).length + 2 + wid (g.drop (v + 1)) := by
  rw [List.drop_eq_getElem_cons hv]
  simp only [wid, List.map_cons, List.sum_cons, List.getD_eq_getElem?_getD, List.getElem?_eq_getElem hv, Option.getD_some]
theorem getD_mem {g : List (List Int)} {v : Nat} (hv : v < g.length) : g.getD v [] ∈ g := by
  rw [List.getD_eq_getElem?_getD, List.getElem?_eq_getElem hv]; exact List.getElem_mem hv
section
variable {g : List (List Int)} {v j n : Nat}
theorem node_code {R : Type} (next bad : R) (c : Bool → R) (hc : c true = next) (hc2 : c false = bad) (hv : v < g.length) (hj : j < (g.getD v []).length) :
    (if nodeOk g v (g.getD v []) j then next else bad) =
      (if (g.getD v []).getD j 0 < 0 then bad else if (g.getD v []).getD j 0 ≥ (g.length : Int) then bad else if (g.getD v []).getD j 0 = (v : Int) then bad else
        if 0 < j then (if (g.getD v []).getD (j - 1) 0 ≥ (g.getD v []).getD j 0 then bad else c ((g.getD ((g.getD v []).getD j 0).toNat []).contains (v : Int)))
        else c ((g.getD ((g.getD v []).getD j 0).toNat []).contains (v : Int))) := by
  unfold nodeOk
  obtain ⟨x, hx⟩ : ∃ x, (g.getD v []).getD j 0 = x := ⟨_, rfl⟩
  obtain ⟨y, hy⟩ : ∃ y, (g.getD v []).getD (j - 1) 0 = y := ⟨_, rfl⟩
  simp only [hx, hy]
  by_cases a : x < 0
  · have : ¬ 0 ≤ x := by omega
    simp [a, this]
  · have a' : 0 ≤ x := by omega
    by_cases b : x ≥ (g.length : Int)
    · have : ¬ x < (g.length : Int) := by omega
      simp [a, b, this]
    · have b' : x < (g.length : Int) := by omega
      by_cases d : x = (v : Int)
      · simp [a, b, d]
      · have d' : (x != (v : Int)) = true := by simp [d]
        cases hcc : (g.getD x.toNat []).contains (v : Int) with
        | true =>
          by_cases e : 0 < j
          · by_cases f : y ≥ x
            · have : ¬ y < x := by omega
              simp [a, b, d, d', e, f, this, a', b']
            · have f' : y < x := by omega
              simp [a, b, d, d', e, f, f', a', b', hc]
          · simp [a, b, d, d', e, a', b', hc]
        | false =>
          by_cases e : 0 < j
          · by_cases f : y ≥ x
            · have : ¬ y < x := by omega
              simp [a, b, d, d', e, f, this, a', b']
            · have f' : y < x := by omega
              simp [a, b, d, d', e, f, f', a', b', hc2]
          · simp [a, b, d, d', e, a', b', hc2]
theorem r64m {j len : Nat} (h : j < len) (hl : len ≤ LB) : R64 ((j : Int) - 1) := by rw [R64_iff]; unfold LB at hl; omega
theorem pred_ok {j len : Nat} (h : 0 < j) (h2 : j < len) : ((0 : Int) ≤ (j : Int) - 1 ∧ (j : Int) - 1 < (len : Int)) ∧ ((j : Int) - 1).toNat = j - 1 ∧ (j : Int) > 0 := by omega
theorem rc_step {self : rcheckPt → Option Int} (hv : v < g.length) (hg : g.length ≤ 256) (hj : j < (g.getD v []).length) (hr : ∀ r ∈ g, r.length ≤ LB) (hn : ∀ r ∈ g, r.length < n) :
    rcheck_l2 n self g (v : Int) (j : Int) = (if nodeOk g v (g.getD v []) j then none else some (120 : Int)).or (self (.l2 (v : Int) ((j : Int) + 1))) := by
  have hlen := hr _ (getD_mem hv)
  have h1 : (v : Int) < (g.length : Int) := by omega
  have h2 : (j : Int) < ((g.getD v []).length : Int) := by omega
  have h3 := r64 hj hlen
  have key := node_code (g := g) (v := v) (j := j) (self (.l2 (v : Int) ((j : Int) + 1))) (some (120 : Int)) (fun b => bif b then self (.l2 (v : Int) ((j : Int) + 1)) else some 120) rfl rfl hv hj
  have e1 : ((if nodeOk g v (g.getD v []) j then none else some (120 : Int)).or (self (.l2 (v : Int) ((j : Int) + 1)))) = (if nodeOk g v (g.getD v []) j then self (.l2 (v : Int) ((j : Int) + 1)) else some 120) := by
    cases nodeOk g v (g.getD v []) j <;> rfl
  rw [e1, key]
  simp only [rcheck_l2, h1, h2, h3, decide_true, cond_true, Int.natCast_nonneg, and_self, if_true, Int.toNat_natCast]
  obtain ⟨x, hx⟩ : ∃ x, (g.getD v []).getD j 0 = x := ⟨_, rfl⟩
  simp only [hx]
  by_cases a : x < 0
  · simp [a]
  by_cases b : x ≥ (g.length : Int)
  · simp [a, b]
  by_cases d : x = (v : Int)
  · simp [a, b, d]
  have d' : (x == (v : Int)) = false := by simp [d]
  have hxm : g.getD x.toNat [] ∈ g := getD_mem (by omega)
  have hh : has n (g.getD x.toNat []) (v : Int) = some ((g.getD x.toNat []).contains (v : Int)) := has_eq (hr _ hxm) (hn _ hxm)
  have hxr : 0 ≤ x ∧ x < (g.length : Int) := by omega
  have fin : ((has n (g.getD x.toNat []) (v : Int)).bind fun y1 => bif (!y1) then some (120 : Int) else self (.l2 (v : Int) ((j : Int) + 1))) = (bif (g.getD x.toNat []).contains (v : Int) then self (.l2 (v : Int) ((j : Int) + 1)) else some 120) := by
    rw [hh]
    cases (g.getD x.toNat []).contains (v : Int) <;> rfl
  by_cases e : 0 < j
  · have h4 : R64 ((j : Int) - 1) ∧ ((0 : Int) ≤ (j : Int) - 1 ∧ (j : Int) - 1 < ((g.getD v []).length : Int)) := ⟨r64m hj hlen, (pred_ok e hj).1⟩
    have h5 := (pred_ok e hj).2.1
    have e' := (pred_ok e hj).2.2
    simp only [e', h4, h5, e, hxr, d', decide_true, cond_true, cond_false, if_true, decide_eq_false a, decide_eq_false b, and_self, if_neg a, if_neg b, if_neg d, fin]
    by_cases f : (g.getD v []).getD (j - 1) 0 ≥ x
    · simp only [f, decide_true, cond_true, if_true]
    · simp only [decide_eq_false f, cond_false, if_neg f]
  · have e' : ¬ (j : Int) > 0 := by omega
    simp only [hxr, d', cond_false, if_true, decide_eq_false a, decide_eq_false b, decide_eq_false e', and_self, if_neg a, if_neg b, if_neg d, if_neg e, fin]
theorem gc_step {self : gcheckPt → Option Int} {row : List Int} (hrow : row = g.getD v []) (hv : v < g.length) (hg : g.length ≤ 256) (hj : j < (g.getD v []).length) (hr : ∀ r ∈ g, r.length ≤ LB) (hn : ∀ r ∈ g, r.length < n) :
    gcheck_l2 n self g (v : Int) row (v : Int) row (row.length : Int) (j : Int) = (if nodeOk g v (g.getD v []) j then none else some (120 : Int)).or (self (.l2 (v : Int) row (v : Int) row (row.length : Int) ((j : Int) + 1))) := by
  subst hrow
  have hlen := hr _ (getD_mem hv)
  have h1 : (v : Int) < (g.length : Int) := by omega
  have h2 : (j : Int) < ((g.getD v []).length : Int) := by omega
  have h3 := r64 hj hlen
  obtain ⟨NX, hNX⟩ : ∃ NX, self (.l2 (v : Int) (g.getD v []) (v : Int) (g.getD v []) ((g.getD v []).length : Int) ((j : Int) + 1)) = NX := ⟨_, rfl⟩
  have key := node_code (g := g) (v := v) (j := j) NX (some (120 : Int)) (fun b => bif b then NX else some 120) rfl rfl hv hj
  have e1 : ((if nodeOk g v (g.getD v []) j then none else some (120 : Int)).or NX) = (if nodeOk g v (g.getD v []) j then NX else some 120) := by
    cases nodeOk g v (g.getD v []) j <;> rfl
  rw [hNX, e1, key]
  simp only [gcheck_l2, h1, h2, h3, decide_true, cond_true, Int.natCast_nonneg, and_self, if_true, Int.toNat_natCast, hNX]
  obtain ⟨x, hx⟩ : ∃ x, (g.getD v []).getD j 0 = x := ⟨_, rfl⟩
  simp only [hx]
  by_cases a : x < 0
  · simp [a]
  by_cases b : x ≥ (g.length : Int)
  · simp [a, b]
  by_cases d : x = (v : Int)
  · simp [a, b, d]
  have d' : (x == (v : Int)) = false := by simp [d]
  have hxm : g.getD x.toNat [] ∈ g := getD_mem (by omega)
  have hh : containsI n (g.getD x.toNat []) (v : Int) = some ((g.getD x.toNat []).contains (v : Int)) := containsI_eq (hr _ hxm) (hn _ hxm)
  have hxr : 0 ≤ x ∧ x < (g.length : Int) := by omega
  have fin : ((containsI n (g.getD x.toNat []) (v : Int)).bind fun y1 => bif (!y1) then some (120 : Int) else NX) = (bif (g.getD x.toNat []).contains (v : Int) then NX else some 120) := by
    rw [hh]
    cases (g.getD x.toNat []).contains (v : Int) <;> rfl
  by_cases e : 0 < j
  · have h4 : R64 ((j : Int) - 1) ∧ ((0 : Int) ≤ (j : Int) - 1 ∧ (j : Int) - 1 < ((g.getD v []).length : Int)) := ⟨r64m hj hlen, (pred_ok e hj).1⟩
    have h5 := (pred_ok e hj).2.1
    have e' := (pred_ok e hj).2.2
    simp only [e', h4, h5, e, hxr, d', decide_true, cond_true, cond_false, if_true, decide_eq_false a, decide_eq_false b, and_self, if_neg a, if_neg b, if_neg d, fin]
    by_cases f : (g.getD v []).getD (j - 1) 0 ≥ x
    · simp only [f, decide_true, cond_true, if_true]
    · simp only [decide_eq_false f, cond_false, if_neg f]
  · have e' : ¬ (j : Int) > 0 := by omega
    simp only [hxr, d', cond_false, if_true, decide_eq_false a, decide_eq_false b, decide_eq_false e', and_self, if_neg a, if_neg b, if_neg d, if_neg e, fin]
end
/-- The rows from one on. -/
theorem rows_from {g : List (List Int)} {v : Nat} (hv : v < g.length) : ((List.range' v (g.length - v)).all fun i => rowOk g i (g.getD i [])) = (rowOk g v (g.getD v []) && (List.range' (v + 1) (g.length - (v + 1))).all fun i => rowOk g i (g.getD i [])) := by
  have : g.length - v = g.length - (v + 1) + 1 := by omega
  rw [this, List.range'_succ, List.all_cons]
theorem rc_rows {g : List (List Int)} (hg : g.length ≤ 256) (hr : ∀ r ∈ g, r.length ≤ LB) : ∀ (k v n : Nat), v + k = g.length → wid (g.drop v) + wid g + 1 ≤ n → rcheck_m g n (.l1 (v : Int)) = some (errOf ((List.range' v (g.length - v)).all fun i => rowOk g i (g.getD i [])) 120)
  | 0, v, n, hv, hn => by
    have : v = g.length := by omega
    subst this
    obtain ⟨m, rfl⟩ : ∃ m, n = m + 1 := ⟨n - 1, by omega⟩
    simp [rcheck_m, rcheck_l1, errOf]
  | k + 1, v, n, hv, hn => by
    have hv' : v < g.length := by omega
    rw [wid_drop hv'] at hn
    have hm := wid_mem (getD_mem hv')
    obtain ⟨m, rfl⟩ : ∃ m, n = m + 1 := ⟨n - 1, by omega⟩
    have h1 : (v : Int) < (g.length : Int) := by omega
    have e1 : rcheck_m g (m + 1) (.l1 (v : Int)) = rcheck_m g m (.l2 (v : Int) 0) := by simp [rcheck_m, rcheck_l1, h1]
    rw [e1]
    have S := scan0 (fun n i => rcheck_m g n (.l2 (v : Int) i)) (g.getD v []).length (wid g) (fun j => if nodeOk g v (g.getD v []) j then none else some 120) (fun n' j hn0 hj => rc_step (n := n') hv' hg hj hr fun r hr' => by have := wid_mem hr'; omega) (n := m) (by omega)
    refine S.trans ?_
    rw [find_all, rows_from hv']
    have eR : ((List.range (g.getD v []).length).all fun i => nodeOk g v (g.getD v []) i) = rowOk g v (g.getD v []) := rfl
    rw [eR]
    cases rowOk g v (g.getD v []) with
    | false => rfl
    | true =>
      obtain ⟨m', hm'⟩ : ∃ m', m - (g.getD v []).length = m' + 1 := ⟨m - (g.getD v []).length - 1, by omega⟩
      rw [hm']
      have h2 : R64 ((v : Int) + 1) := by rw [R64_iff]; omega
      have ih := rc_rows hg hr k (v + 1) m' (by omega) (by omega)
      have h3 : ¬ (((g.getD v []).length : Int) < ((g.getD v []).length : Int)) := by omega
      simp only [if_true, rcheck_m, rcheck_l2, h1, h2, Int.natCast_nonneg, and_self, Int.toNat_natCast, decide_eq_false h3, cond_false, Bool.true_and]
      exact ih
theorem gc_rows {g : List (List Int)} (hg : g.length ≤ 256) (hr : ∀ r ∈ g, r.length ≤ LB) : ∀ (k v n : Nat), v + k = g.length → wid (g.drop v) + wid g + 1 ≤ n → gcheck_m g n (.l1 (v : Int)) = some (errOf ((List.range' v (g.length - v)).all fun i => rowOk g i (g.getD i [])) 120)
  | 0, v, n, hv, hn => by
    have : v = g.length := by omega
    subst this
    obtain ⟨m, rfl⟩ : ∃ m, n = m + 1 := ⟨n - 1, by omega⟩
    simp [gcheck_m, gcheck_l1, errOf]
  | k + 1, v, n, hv, hn => by
    have hv' : v < g.length := by omega
    rw [wid_drop hv'] at hn
    have hm := wid_mem (getD_mem hv')
    obtain ⟨m, rfl⟩ : ∃ m, n = m + 1 := ⟨n - 1, by omega⟩
    have h1 : (v : Int) < (g.length : Int) := by omega
    have e1 : gcheck_m g (m + 1) (.l1 (v : Int)) = gcheck_m g m (.l2 (v : Int) (g.getD v []) (v : Int) (g.getD v []) ((g.getD v []).length : Int) 0) := by
      simp only [gcheck_m, gcheck_l1, h1, decide_true, cond_true, Int.natCast_nonneg, and_self, if_true, Int.toNat_natCast]
    rw [e1]
    have S := scan0 (fun n i => gcheck_m g n (.l2 (v : Int) (g.getD v []) (v : Int) (g.getD v []) ((g.getD v []).length : Int) i)) (g.getD v []).length (wid g) (fun j => if nodeOk g v (g.getD v []) j then none else some 120) (fun n' j hn0 hj => gc_step (n := n') rfl hv' hg hj hr fun r hr' => by have := wid_mem hr'; omega) (n := m) (by omega)
    refine S.trans ?_
    rw [find_all, rows_from hv']
    have eR : ((List.range (g.getD v []).length).all fun i => nodeOk g v (g.getD v []) i) = rowOk g v (g.getD v []) := rfl
    rw [eR]
    cases rowOk g v (g.getD v []) with
    | false => rfl
    | true =>
      obtain ⟨m', hm'⟩ : ∃ m', m - (g.getD v []).length = m' + 1 := ⟨m - (g.getD v []).length - 1, by omega⟩
      rw [hm']
      have h2 : R64 ((v : Int) + 1) := by rw [R64_iff]; omega
      have ih := gc_rows hg hr k (v + 1) m' (by omega) (by omega)
      have h3 : ¬ (((g.getD v []).length : Int) < ((g.getD v []).length : Int)) := by omega
      simp only [if_true, gcheck_m, gcheck_l2, h2, decide_eq_false h3, cond_false, Bool.true_and]
      exact ih
theorem rcheck_eq {g : List (List Int)} {n : Nat} (hr : ∀ r ∈ g, r.length ≤ LB) (hn : 2 * wid g + 1 ≤ n) : rcheck n g = some (errOf (graphOk g) 120) := by
  unfold rcheck rcheck_l0 graphOk
  by_cases h : (g.length : Int) > 256
  · have : ¬ g.length ≤ 256 := by omega
    simp [h, this, errOf]
  · have h' : g.length ≤ 256 := by omega
    have := rc_rows h' hr g.length 0 n (by omega) (by simp; omega)
    simp only [decide_eq_false h, cond_false, decide_eq_true h', Bool.true_and]
    rw [List.range_eq_range']
    simpa using this
theorem gcheck_eq {g : List (List Int)} {n : Nat} (hr : ∀ r ∈ g, r.length ≤ LB) (hn : 2 * wid g + 1 ≤ n) : gcheck n g = some (errOf (graphOk g) 120) := by
  unfold gcheck gcheck_l0 graphOk
  by_cases h : (g.length : Int) > 256
  · have : ¬ g.length ≤ 256 := by omega
    simp [h, this, errOf]
  · have h' : g.length ≤ 256 := by omega
    have := gc_rows h' hr g.length 0 n (by omega) (by simp; omega)
    simp only [decide_eq_false h, cond_false, decide_eq_true h', Bool.true_and]
    rw [List.range_eq_range']
    simpa using this
end Go.Proofs.YtekkngkphejfcaaDoor
namespace Go.Proofs.YtekkngkphejfcaaDoor
open Go.RowKit
theorem pow_facts {s : Int} (h1 : 1 ≤ s) (h2 : s ≤ 16) : IntKind.i64.wrap (1 * 2 ^ s.toNat) = 2 ^ s.toNat ∧ R64 ((2 : Int) ^ s.toNat - 1) ∧ ((0 : Int) ≤ s ∧ s ≤ ((IntKind.i64.bits : Nat) : Int)) := by
  obtain ⟨m, rfl⟩ := Int.eq_ofNat_of_zero_le (show 0 ≤ s by omega)
  rw [Int.toNat_natCast]
  have h : m < 17 := by omega
  refine ⟨?_, ?_, by omega, by show (m : Int) ≤ 64; omega⟩
  · revert h; clear h1 h2; revert m; decide
  · revert h; clear h1 h2; revert m; decide
/-- A loop over the pairs of a list. -/
theorem diff_row {l : List Int} (hl : l.length ≤ LB) {i : Nat} (hi : i < l.length) {self : differentPt → Option Bool} {n : Nat} (j : Nat) (hj : j < i) : different_l2 n self l (i : Int) (j : Int) = (if l.getD i 0 != l.getD j 0 then none else some false).or (self (.l2 (i : Int) ((j : Int) + 1))) := by
  have h1 : (j : Int) < (i : Int) := by omega
  have h2 : (i : Int) < (l.length : Int) := by omega
  have h3 : (j : Int) < (l.length : Int) := by omega
  have h4 := r64 (show j < l.length by omega) hl
  simp only [different_l2, h1, h2, h3, h4, decide_true, cond_true, Int.natCast_nonneg, and_self, if_true, Int.toNat_natCast]
  by_cases a : l.getD i 0 = l.getD j 0
  · have t : (l.getD i 0 == l.getD j 0) = true := by simp only [beq_iff_eq]; exact a
    have t' : (l.getD i 0 != l.getD j 0) = false := by simp only [bne, t, Bool.not_true]
    simp only [t, t', cond_true, Bool.false_eq_true, if_false, Option.or]
  · have : (l.getD i 0 == l.getD j 0) = false := by simp only [beq_eq_false_iff_ne]; exact a
    have a' : (l.getD i 0 != l.getD j 0) = true := by simp only [bne_iff_ne]; exact a
    simp only [this, a', cond_false, if_true, Option.or]
theorem take_contains {l : List Int} {i : Nat} (hi : i ≤ l.length) {x : Int} : ((List.range i).all fun j => x != l.getD j 0) = !(l.take i).contains x := by
  rw [Bool.eq_iff_iff]
  simp only [List.all_eq_true, List.mem_range, bne_iff_ne, ne_eq, Bool.not_eq_true', Bool.eq_false_iff, List.contains_iff_mem, List.mem_take_iff_getElem, not_exists]
  constructor
  · intro h j hj e
    have hj' : j < l.length := by omega
    refine h j (by omega) ?_
    rw [← e]; simp [hj']
  · intro h j hj e
    have hj' : j < l.length := by omega
    exact h j (by omega) (by rw [e]; simp [hj'])
theorem diff_loop {l : List Int} (hl : l.length ≤ LB) : ∀ (k i n : Nat), i + k = l.length → k * (l.length + 2) + 1 ≤ n → different_m l n (.l1 (i : Int)) = some ((List.range' i k).all fun i => !(l.take i).contains (l.getD i 0))
  | 0, i, n, hi, hn => by
    have : i = l.length := by omega
    subst this
    obtain ⟨m, rfl⟩ : ∃ m, n = m + 1 := ⟨n - 1, by omega⟩
    simp [different_m, different_l1]
  | k + 1, i, n, hi, hn => by
    have hi' : i < l.length := by omega
    rw [Nat.succ_mul] at hn
    obtain ⟨m, rfl⟩ : ∃ m, n = m + 1 := ⟨n - 1, by omega⟩
    have h1 : (i : Int) < (l.length : Int) := by omega
    have e1 : different_m l (m + 1) (.l1 (i : Int)) = different_m l m (.l2 (i : Int) 0) := by simp [different_m, different_l1, h1]
    rw [e1]
    have S := scan0 (fun n j => different_m l n (.l2 (i : Int) j)) i 0 (fun j => if l.getD i 0 != l.getD j 0 then none else some false) (fun n' j _ hj => diff_row (n := n') hl hi' j hj) (n := m) (by omega)
    refine S.trans ?_
    rw [find_all, take_contains (by omega), List.range'_succ, List.all_cons]
    cases (l.take i).contains (l.getD i 0) with
    | true => rfl
    | false =>
      obtain ⟨m', hm'⟩ : ∃ m', m - i = m' + 1 := ⟨m - i - 1, by omega⟩
      rw [hm']
      have ih := diff_loop hl k (i + 1) m' (by omega) (by omega)
      have h2 := r64 hi' hl
      have h3 : ¬ ((i : Int) < (i : Int)) := by omega
      simp only [Bool.not_false, if_true, different_m, different_l2, decide_eq_false h3, cond_false, h2, Bool.true_and]
      exact ih
theorem different_eq {l : List Int} {n : Nat} (hl : l.length ≤ LB) (hn : l.length * (l.length + 2) + 1 ≤ n) : different n l = some (nodupB l) := by
  unfold different different_l0 nodupB
  rw [List.range_eq_range']
  exact diff_loop hl l.length 0 n (by omega) hn
section
variable {c : ConsD} {n : Nat}
def restB (sy : Int) (c : ConsD) : Bool := within [c.set, c.other] 0 (2 ^ sy.toNat - 1) && within [c.lo, c.hi] 0 65536 && decide (c.runs.length ≤ 8) && within c.runs 1 256
theorem lb2 {a b : Int} : ([a, b] : List Int).length ≤ LB := by show 2 ≤ LB; unfold LB; omega
theorem len8 {l : List Int} : (decide (((l.length : Nat) : Int) ≤ 8)) = decide (l.length ≤ 8) := by rw [Bool.eq_iff_iff]; simp; omega
theorem fine_rest {self : fineDPt → Option Bool} {q : ProbD} (h1 : 1 ≤ q.symbols) (h2 : q.symbols ≤ 16) (hr : c.runs.length ≤ LB) (hn : c.runs.length < n) (hn2 : 2 < n) : fineD_l2 n self q c = some (restB q.symbols c) := by
  obtain ⟨p1, p2, p3⟩ := pow_facts h1 h2
  unfold fineD_l2
  rw [p1, if_pos ⟨p3, p2⟩, pzwithin_eq lb2 (show 2 < n from hn2), pzwithin_eq lb2 (show 2 < n from hn2), pzwithin_eq hr hn]
  unfold restB
  rw [len8]
  cases within [c.set, c.other] 0 (2 ^ q.symbols.toNat - 1) <;> cases within [c.lo, c.hi] 0 65536 <;> cases decide (c.runs.length ≤ 8) <;> rfl
theorem fine_cell {self : fineDPt → Option Bool} {q : ProbD} (hq : q.cells ≤ 256) (hc : c.cells.length ≤ LB) {i : Nat} (hi : i < c.cells.length) {o : List Bool} (ho : o.length = 256) (hm : ∀ x : Nat, x < 256 → o.getD x false = (c.cells.take i).contains (x : Int)) :
    fineD_l1 n self q c (i : Int) o = if cellOk q.cells c.kind c.cells i then self (.l1 ((i : Int) + 1) (o.set (0 + (c.cells.getD i 0).toNat) true)) else some false := by
  have h1 : (i : Int) < (c.cells.length : Int) := by omega
  have h2 := r64 hi hc
  unfold cellOk
  obtain ⟨x, hx⟩ : ∃ x, c.cells.getD i 0 = x := ⟨_, rfl⟩
  simp only [fineD_l1, h1, h2, decide_true, cond_true, Int.natCast_nonneg, and_self, if_true, Int.toNat_natCast, hx]
  by_cases a : x < 0
  · have : ¬ 0 ≤ x := by omega
    simp [a, this]
  have a' : 0 ≤ x := by omega
  by_cases b : x ≥ q.cells
  · have : ¬ x < q.cells := by omega
    simp [a, b, this]
  have b' : x < q.cells := by omega
  have hg : ((0 : Int) ≤ x ∧ x < ((256 : Nat) : Int)) ∧ 0 + x.toNat < o.length := ⟨⟨a', by omega⟩, by omega⟩
  have hmm : o.getD (0 + x.toNat) false = (c.cells.take i).contains x := by
    rw [Nat.zero_add, hm x.toNat (by omega)]
    congr 1; omega
  simp only [hg, hmm, decide_eq_false a, decide_eq_false b, cond_false, if_true, decide_eq_true a', decide_eq_true b', Bool.true_and, and_self]
  cases (c.cells.take i).contains x with
  | true => rfl
  | false =>
    by_cases e : c.kind ≥ 8
    · have e' : 8 ≤ c.kind := e
      by_cases f : x = (i : Int)
      · have f1 : (x != (i : Int)) = false := by simp [f]
        have f2 : (x == (i : Int)) = true := by simp [f]
        simp only [e, e', f1, f2, decide_true, cond_true, cond_false, Bool.not_false, Bool.not_true, Bool.false_or, Bool.true_and, if_true]
      · have f1 : (x != (i : Int)) = true := by simp [f]
        have f2 : (x == (i : Int)) = false := by simp [f]
        simp only [e, e', f1, f2, decide_true, cond_true, cond_false, Bool.not_false, Bool.not_true, Bool.false_or, Bool.true_and, Bool.false_eq_true, if_false]
    · have e' : ¬ 8 ≤ c.kind := e
      simp only [decide_eq_false e, decide_eq_false e', decide_true, cond_false, Bool.not_false, Bool.true_or, Bool.and_self, if_true]
theorem fine_end {self : fineDPt → Option Bool} {q : ProbD} {o : List Bool} : fineD_l1 n self q c (c.cells.length : Int) o = if kindOk q.cells c.kind c.cells.length then self .l2 else some false := by
  have h1 : ¬ ((c.cells.length : Int) < (c.cells.length : Int)) := by omega
  simp only [fineD_l1, decide_eq_false h1, cond_false]
  by_cases hk : 1 ≤ c.kind ∧ c.kind ≤ 9
  · obtain ⟨k, hk0⟩ : ∃ k, c.kind = k := ⟨_, rfl⟩
    rw [hk0] at hk
    simp only [hk0]
    have e2 : (((c.cells.length : Nat) : Int) != 2) = !(c.cells.length == 2) := by rw [Bool.eq_iff_iff]; simp; omega
    have e3 : (((c.cells.length : Nat) : Int) != q.cells) = !(((c.cells.length : Nat) : Int) == q.cells) := rfl
    rcases kind_cases hk with h | h | h | h | h | h | h | h | h <;> subst h
    · rfl
    · rfl
    · rfl
    · rfl
    · rfl
    · show (bif (((c.cells.length : Nat) : Int) != 2) then some false else self .l2) = _
      rw [e2]; unfold kindOk; cases c.cells.length == 2 <;> rfl
    · show (bif (((c.cells.length : Nat) : Int) != 2) then some false else self .l2) = _
      rw [e2]; unfold kindOk; cases c.cells.length == 2 <;> rfl
    · show (bif (((c.cells.length : Nat) : Int) != q.cells) then some false else self .l2) = _
      rw [e3]; unfold kindOk; cases ((c.cells.length : Nat) : Int) == q.cells <;> rfl
    · show (bif (((c.cells.length : Nat) : Int) != q.cells) then some false else self .l2) = _
      rw [e3]; unfold kindOk; cases ((c.cells.length : Nat) : Int) == q.cells <;> rfl
  · have hno : kindOk q.cells c.kind c.cells.length = false := by
      rw [Bool.eq_false_iff]; exact fun h => hk (kind_range h)
    rw [hno]
    have z : ∀ m : Int, 1 ≤ m → m ≤ 9 → (c.kind == m) = false := fun m h1 h2 => by simp only [beq_eq_false_iff_ne]; omega
    simp [z 1, z 2, z 3, z 4, z 5, z 6, z 7, z 8, z 9]
theorem fine_loop {q : ProbD} (hq : q.cells ≤ 256) (hc : c.cells.length ≤ LB) (h1 : 1 ≤ q.symbols) (h2 : q.symbols ≤ 16) (hr : c.runs.length ≤ LB) : ∀ (k i n : Nat) (o : List Bool), i + k = c.cells.length → k + c.runs.length + 6 ≤ n → o.length = 256 → (∀ x : Nat, x < 256 → o.getD x false = (c.cells.take i).contains (x : Int)) →
    fineD_m q c n (.l1 (i : Int) o) = some ((List.range' i k).all (cellOk q.cells c.kind c.cells) && kindOk q.cells c.kind c.cells.length && restB q.symbols c)
  | 0, i, n, o, hi, hn, ho, hm => by
    have : i = c.cells.length := by omega
    subst this
    obtain ⟨m, rfl⟩ : ∃ m, n = m + 1 := ⟨n - 1, by omega⟩
    refine (fine_end (n := m)).trans ?_
    cases kindOk q.cells c.kind c.cells.length with
    | false => simp
    | true =>
      obtain ⟨m', rfl⟩ : ∃ m', m = m' + 1 := ⟨m - 1, by omega⟩
      show fineD_l2 m' (fineD_m q c m') q c = _
      rw [fine_rest h1 h2 hr (by omega) (by omega)]
      simp
  | k + 1, i, n, o, hi, hn, ho, hm => by
    obtain ⟨m, rfl⟩ : ∃ m, n = m + 1 := ⟨n - 1, by omega⟩
    refine (fine_cell (n := m) hq hc (show i < c.cells.length by omega) ho hm).trans ?_
    rw [List.range'_succ, List.all_cons]
    cases hck : cellOk q.cells c.kind c.cells i with
    | false => simp
    | true =>
      have hx : 0 ≤ c.cells.getD i 0 ∧ c.cells.getD i 0 < q.cells := by
        unfold cellOk at hck
        simp only [Bool.and_eq_true, decide_eq_true_eq] at hck
        exact ⟨hck.1.1.1, hck.1.1.2⟩
      have ih := fine_loop hq hc h1 h2 hr k (i + 1) m (o.set (0 + (c.cells.getD i 0).toNat) true) (by omega) (by omega) (by simp [ho]) (fun x hx256 => ?_)
      · simp only [if_true, Bool.true_and]
        exact ih
      · have hi' : i < c.cells.length := by omega
        rw [Nat.zero_add]
        have ht : c.cells.take (i + 1) = c.cells.take i ++ [c.cells.getD i 0] := by
          rw [List.take_add_one]
          simp [hi']
        rw [ht, List.contains_append, ← hm x hx256]
        rw [List.getD_eq_getElem?_getD, List.getElem?_set]
        by_cases e : (c.cells.getD i 0).toNat = x
        · have e2 : ((x : Nat) : Int) = c.cells.getD i 0 := by omega
          rw [if_pos e, if_pos (by omega)]
          simp [e2]
        · have e2 : ¬ ((x : Nat) : Int) = c.cells.getD i 0 := by omega
          rw [if_neg e]
          have e3 : ([c.cells.getD i 0].contains ((x : Nat) : Int)) = false := by
            simp only [List.contains_cons, List.contains_nil, Bool.or_false, beq_eq_false_iff_ne]
            exact e2
          rw [e3, Bool.or_false, List.getD_eq_getElem?_getD]
theorem fineD_eq {q : ProbD} (hq : q.cells ≤ 256) (hc : c.cells.length ≤ LB) (h1 : 1 ≤ q.symbols) (h2 : q.symbols ≤ 16) (hr : c.runs.length ≤ LB) (hn : c.cells.length + c.runs.length + 6 ≤ n) : fineD n q c = some (fineB q c) := by
  unfold fineD fineD_l0
  have := fine_loop hq hc h1 h2 hr c.cells.length 0 n (List.replicate 256 false) (by omega) (by omega) List.length_replicate (fun x hx => by rw [List.getD_eq_getElem?_getD, List.getElem?_replicate, if_pos hx]; rfl)
  refine Eq.trans this ?_
  rw [← List.range_eq_range']
  unfold fineB cellsOk restB
  simp only [Bool.and_assoc]
end
end Go.Proofs.YtekkngkphejfcaaDoor
namespace Go.Proofs.YtekkngkphejfcaaDoor
open Go.RowKit
section
variable {c : ConsD} {n : Nat} {cells sy : Int}
def idB (c : ConsD) : Bool := (List.range c.cells.length).all fun i => c.cells.getD i 0 == (i : Int)
theorem rfine_loop (hc : c.cells.length ≤ LB) (hr : c.runs.length ≤ LB) (h1 : 1 ≤ sy) (h2 : sy ≤ 16) (hn : c.cells.length + c.runs.length + 6 ≤ n) : rfine_m c cells sy n (.l1 0) = some ((!(c.kind == 8 || c.kind == 9) || idB c) && restB sy c) := by
  have S := scan0 (fun n i => rfine_m c cells sy n (.l1 i)) c.cells.length 0 (fun i => if (!(c.kind == 8 || c.kind == 9) || c.cells.getD i 0 == (i : Int)) then none else some false) (fun n i _ hi => ?_) (n := n) (by omega)
  · refine S.trans ?_
    rw [find_all]
    have e : ((List.range c.cells.length).all fun i => (!(c.kind == 8 || c.kind == 9) || c.cells.getD i 0 == (i : Int))) = (!(c.kind == 8 || c.kind == 9) || idB c) := by
      unfold idB
      cases (c.kind == 8 || c.kind == 9) with
      | true => simp
      | false => simp
    rw [e]
    cases (!(c.kind == 8 || c.kind == 9) || idB c) with
    | false => rfl
    | true =>
      obtain ⟨m, hm⟩ : ∃ m, n - c.cells.length = m + 1 := ⟨n - c.cells.length - 1, by omega⟩
      rw [hm]
      obtain ⟨p1, p2, p3⟩ := pow_facts h1 h2
      have h3 : ¬ ((c.cells.length : Int) < (c.cells.length : Int)) := by omega
      show rfine_l1 m (rfine_m c cells sy m) c cells sy (c.cells.length : Int) = _
      unfold rfine_l1
      rw [decide_eq_false h3, cond_false, p1, if_pos ⟨p3, p2⟩, between_eq lb2 (show 2 < m by omega), between_eq lb2 (show 2 < m by omega), between_eq hr (show c.runs.length < m by omega)]
      unfold restB
      rw [len8]
      cases within [c.set, c.other] 0 (2 ^ sy.toNat - 1) <;> cases within [c.lo, c.hi] 0 65536 <;> cases decide (c.runs.length ≤ 8) <;> rfl
  · have h1 : (i : Int) < (c.cells.length : Int) := by omega
    have h2 := r64 hi hc
    show rfine_l1 n (rfine_m c cells sy n) c cells sy (i : Int) = _
    generalize rfine_m c cells sy n = self
    simp only [rfine_l1, h1, h2, decide_true, cond_true, Int.natCast_nonneg, and_self, if_true, Int.toNat_natCast]
    obtain ⟨x, hx⟩ : ∃ x, c.cells.getD i 0 = x := ⟨_, rfl⟩
    simp only [hx]
    by_cases f : x = (i : Int)
    · have f1 : (x != (i : Int)) = false := by simp [f]
      have f2 : (x == (i : Int)) = true := by simp [f]
      rw [f1, f2]
      cases c.kind == 8 <;> cases c.kind == 9 <;> rfl
    · have f1 : (x != (i : Int)) = true := by simp [f]
      have f2 : (x == (i : Int)) = false := by simp [f]
      rw [f1, f2]
      cases c.kind == 8 <;> cases c.kind == 9 <;> rfl
theorem rfine_eq' (hc : c.cells.length ≤ LB) (hr : c.runs.length ≤ LB) (h0 : 1 ≤ cells) (h00 : cells ≤ 256) (h1 : 1 ≤ sy) (h2 : sy ≤ 16) (hn : c.cells.length * (c.cells.length + 2) + c.cells.length + c.runs.length + 7 ≤ n) : rfine n c cells sy = some (rfineB c cells sy) := by
  have loop := rfine_loop (cells := cells) hc hr h1 h2 (n := n) (by omega)
  have hR : R64 (cells - 1) := by rw [R64_iff]; omega
  unfold rfine rfine_l0 rfineB
  simp only [hR, if_true, between_eq hc (show c.cells.length < n by omega), different_eq hc (show c.cells.length * (c.cells.length + 2) + 1 ≤ n by omega), loop, Option.bind_some]
  have hidB : ((List.range c.cells.length).all fun i => c.cells.getD i 0 == (i : Int)) = idB c := rfl
  have hrest : ∀ b : Bool, (b && within [c.set, c.other] 0 (2 ^ sy.toNat - 1) && within [c.lo, c.hi] 0 65536 && decide (c.runs.length ≤ 8) && within c.runs 1 256) = (b && restB sy c) := fun b => by unfold restB; simp only [Bool.and_assoc]
  rw [hidB, hrest]
  have e2 : (((c.cells.length : Nat) : Int) != 2) = !(c.cells.length == 2) := by rw [Bool.eq_iff_iff]; simp; omega
  have e3 : (((c.cells.length : Nat) : Int) != cells) = !(((c.cells.length : Nat) : Int) == cells) := rfl
  rw [e2, e3]
  generalize restB sy c = R
  generalize idB c = D
  generalize within c.cells 0 (cells - 1) = W
  generalize nodupB c.cells = U
  generalize (c.cells.length == 2) = T
  generalize hE : (((c.cells.length : Nat) : Int) == cells) = E
  by_cases k1 : c.kind < 1
  · have : ¬ 1 ≤ c.kind := by omega
    simp [k1, this]
  by_cases k2 : c.kind > 9
  · have : ¬ c.kind ≤ 9 := by omega
    simp [k1, k2, this]
  by_cases k3 : ((c.cells.length : Nat) : Int) > cells
  · have : ¬ ((c.cells.length : Nat) : Int) ≤ cells := by omega
    simp [k1, k2, k3, this]
  have k1' : 1 ≤ c.kind := by omega
  have k2' : c.kind ≤ 9 := by omega
  have k3' : ((c.cells.length : Nat) : Int) ≤ cells := by omega
  simp only [decide_eq_false k1, decide_eq_false k2, decide_eq_false k3, decide_eq_true k1', decide_eq_true k2', decide_eq_true k3', cond_false, Bool.true_and]
  obtain ⟨k, hk⟩ : ∃ k, c.kind = k := ⟨_, rfl⟩
  rw [hk] at k1' k2'
  simp only [hk]
  clear hE
  rcases kind_cases ⟨k1', k2'⟩ with h | h | h | h | h | h | h | h | h <;> subst h <;> cases W <;> cases U <;> cases T <;> cases E <;> cases D <;> cases R <;> rfl
end
/-- How large a problem is. -/
def szC (c : ConsD) : Nat := c.cells.length * (c.cells.length + 2) + c.cells.length + c.runs.length + 7
theorem szC_def (c : ConsD) : szC c = c.cells.length * (c.cells.length + 2) + c.cells.length + c.runs.length + 7 := rfl
def szP (q : ProbD) : Nat := q.values.length + 2 * wid q.nbrs + (q.cons.map szC).sum + q.cons.length + 10
/-- Its rows are no longer than rows can be. -/
structure Fit (q : ProbD) : Prop where
  values : q.values.length ≤ LB
  nbrs : ∀ r ∈ q.nbrs, r.length ≤ LB
  cells : ∀ c ∈ q.cons, c.cells.length ≤ LB
  runs : ∀ c ∈ q.cons, c.runs.length ≤ LB
theorem szC_mem : ∀ {l : List ConsD} {c : ConsD}, c ∈ l → szC c ≤ (l.map szC).sum
  | [], _, h => by cases h
  | a :: l, c, h => by
    rw [List.map_cons, List.sum_cons]
    rcases List.mem_cons.1 h with rfl | h
    · omega
    · have := szC_mem h; omega
section
variable {q : ProbD} {n : Nat}
theorem errOf_ne' {b : Bool} : (errOf b 120 == 0) = b := by cases b <;> rfl
theorem unfine_all (hF : Fit q) (h1 : 1 ≤ q.cells) (h2 : q.cells ≤ 256) (h3 : 1 ≤ q.symbols) (h4 : q.symbols ≤ 16) (h5 : q.cons.length ≤ 4096) (hn : szP q ≤ n) : ∃ r : Int, indexUnfine n q.cons q = some r ∧ (0 ≤ r ↔ q.cons.all (fineB q) = false) := by
  unfold indexUnfine indexUnfine_l0
  have S := scan0 (fun n i => indexUnfine_m q.cons q n (.l1 i)) q.cons.length (q.cons.map szC).sum (fun i => if fineB q (q.cons.getD i default) then none else some (i : Int)) (fun n i hn0 hi => ?_) (n := n) (by unfold szP at hn; omega)
  · rw [show indexUnfine_m q.cons q n (.l1 0) = _ from S]
    cases hf : (List.range q.cons.length).findSome? (fun i => if fineB q (q.cons.getD i default) then none else some (i : Int)) with
    | some r =>
      refine ⟨r, rfl, ?_⟩
      obtain ⟨i, hi, hr⟩ := List.exists_of_findSome?_eq_some hf
      have hi' : i < q.cons.length := by simpa using hi
      split at hr
      · cases hr
      · rename_i hx
        cases hr
        refine ⟨fun _ => ?_, fun _ => by omega⟩
        rw [List.all_eq_false]
        exact ⟨q.cons[i], List.getElem_mem hi', by simpa [hi'] using hx⟩
    | none =>
      obtain ⟨m, hm⟩ : ∃ m, n - q.cons.length = m + 1 := ⟨n - q.cons.length - 1, by unfold szP at hn; omega⟩
      refine ⟨-1, by rw [hm]; simp [indexUnfine_m, indexUnfine_l1], ?_⟩
      rw [List.findSome?_eq_none_iff] at hf
      have : q.cons.all (fineB q) = true := by
        rw [← range_getD_all (p := fineB q) (d := (default : ConsD)), List.all_eq_true]
        intro i hi
        have := hf i hi
        cases hc : fineB q (q.cons.getD i default) with
        | true => rfl
        | false => rw [hc] at this; simp at this
      simp [this]
  · have hlt : (i : Int) < (q.cons.length : Int) := by omega
    have hR : R64 ((i : Int) + 1) := by rw [R64_iff]; omega
    have hmem : q.cons.getD i default ∈ q.cons := by rw [List.getD_eq_getElem?_getD, List.getElem?_eq_getElem hi]; exact List.getElem_mem hi
    have hsz := szC_mem hmem
    have hfine := fineD_eq (n := n) h2 (hF.cells _ hmem) h3 h4 (hF.runs _ hmem) (by rw [szC_def (q.cons.getD i default)] at hsz; omega)
    show indexUnfine_l1 n (indexUnfine_m q.cons q n) q.cons q (i : Int) = _
    generalize indexUnfine_m q.cons q n = self
    simp only [indexUnfine_l1, unfine, unfine_l0, hlt, hR, decide_true, cond_true, Int.natCast_nonneg, and_self, if_true, Int.toNat_natCast, hfine, Option.bind_some]
    cases fineB q (q.cons.getD i default) <;> rfl
theorem valid_eq (hF : Fit q) (hn : szP q ≤ n) : valid n q = some (errOf (validB q) 191) := by
  unfold valid valid_l0 validB
  have hv := pzwithin_eq (lo := 0) (up := 99) hF.values (show q.values.length < n by unfold szP at hn; omega)
  have hg := gcheck_eq hF.nbrs (show 2 * wid q.nbrs + 1 ≤ n by unfold szP at hn; omega)
  by_cases c1 : q.cells < 1
  · have : ¬ 1 ≤ q.cells := by omega
    simp [c1, this, errOf]
  have c1' : 1 ≤ q.cells := by omega
  by_cases c2 : q.cells > 256
  · have : ¬ q.cells ≤ 256 := by omega
    simp [c1, c2, this, errOf]
  have c2' : q.cells ≤ 256 := by omega
  by_cases c3 : q.symbols < 1
  · have : ¬ 1 ≤ q.symbols := by omega
    simp [c1, c2, c3, this, errOf]
  have c3' : 1 ≤ q.symbols := by omega
  by_cases c4 : q.symbols > 16
  · have : ¬ q.symbols ≤ 16 := by omega
    simp [c1, c2, c3, c4, this, errOf]
  have c4' : q.symbols ≤ 16 := by omega
  simp only [decide_eq_false c1, decide_eq_false c2, decide_eq_false c3, decide_eq_false c4, decide_eq_true c1', decide_eq_true c2', decide_eq_true c3', decide_eq_true c4', cond_false, Bool.true_and, hv, hg, Option.bind_some, bne, errOf_ne']
  cases ((q.values.length : Nat) : Int) == q.symbols with
  | false => rfl
  | true =>
  cases within q.values 0 99 with
  | false => rfl
  | true =>
  cases ((q.nbrs.length : Nat) : Int) == q.cells with
  | false => rfl
  | true =>
  cases graphOk q.nbrs with
  | false => rfl
  | true =>
  by_cases c5 : ((q.cons.length : Nat) : Int) > 4096
  · have : ¬ q.cons.length ≤ 4096 := by omega
    simp [c5, this, errOf]
  have c5' : q.cons.length ≤ 4096 := by omega
  obtain ⟨r, r1, r2⟩ := unfine_all hF c1' c2' c3' c4' c5' hn
  simp only [containsUnfine, containsUnfine_l0, r1, decide_eq_false c5, decide_eq_true c5', Option.bind_some, cond_false, Bool.true_and, Bool.not_true, errOf_true, beq_self_eq_true]
  cases ha : q.cons.all (fineB q) with
  | false => have : r ≥ 0 := r2.2 ha
             simp [this, errOf]
  | true => have : ¬ r ≥ 0 := fun h => by rw [r2.1 h] at ha; cases ha
            simp [this, errOf]
theorem rvalid_loop (hF : Fit q) (h1 : 1 ≤ q.cells) (h2 : q.cells ≤ 256) (h3 : 1 ≤ q.symbols) (h4 : q.symbols ≤ 16) (h5 : q.cons.length ≤ 4096) (hn : szP q ≤ n) : rvalid_m q n (.l1 0) = some (errOf (q.cons.all (fineB q)) 191) := by
  have S := scan0 (fun n i => rvalid_m q n (.l1 i)) q.cons.length (q.cons.map szC).sum (fun i => if fineB q (q.cons.getD i default) then none else some 191) (fun n i hn0 hi => ?_) (n := n) (by unfold szP at hn; omega)
  · refine S.trans ?_
    rw [find_all, range_getD_all (p := fineB q)]
    cases q.cons.all (fineB q) with
    | false => rfl
    | true =>
      obtain ⟨m, hm⟩ : ∃ m, n - q.cons.length = m + 1 := ⟨n - q.cons.length - 1, by unfold szP at hn; omega⟩
      rw [hm]
      simp [rvalid_m, rvalid_l1, errOf]
  · have hlt : (i : Int) < (q.cons.length : Int) := by omega
    have hR : R64 ((i : Int) + 1) := by rw [R64_iff]; omega
    have hmem : q.cons.getD i default ∈ q.cons := by rw [List.getD_eq_getElem?_getD, List.getElem?_eq_getElem hi]; exact List.getElem_mem hi
    have hsz := szC_mem hmem
    have hfine := rfine_eq' (n := n) (hF.cells _ hmem) (hF.runs _ hmem) h1 h2 h3 h4 (by rw [szC_def (q.cons.getD i default)] at hsz; omega)
    rw [rfine_eq q _ h1] at hfine
    show rvalid_l1 n (rvalid_m q n) q (i : Int) = _
    generalize rvalid_m q n = self
    simp only [rvalid_l1, hlt, hR, decide_true, cond_true, Int.natCast_nonneg, and_self, if_true, Int.toNat_natCast, hfine, Option.bind_some]
    cases fineB q (q.cons.getD i default) <;> rfl
theorem rvalid_eq (hF : Fit q) (hn : szP q ≤ n) : rvalid n q = some (errOf (validB q) 191) := by
  unfold rvalid rvalid_l0 validB
  have hv := between_eq (lo := 0) (up := 99) hF.values (show q.values.length < n by unfold szP at hn; omega)
  have hg := rcheck_eq hF.nbrs (show 2 * wid q.nbrs + 1 ≤ n by unfold szP at hn; omega)
  by_cases c1 : q.cells < 1
  · have : ¬ 1 ≤ q.cells := by omega
    simp [c1, this, errOf]
  have c1' : 1 ≤ q.cells := by omega
  by_cases c2 : q.cells > 256
  · have : ¬ q.cells ≤ 256 := by omega
    simp [c1, c2, this, errOf]
  have c2' : q.cells ≤ 256 := by omega
  by_cases c3 : q.symbols < 1
  · have : ¬ 1 ≤ q.symbols := by omega
    simp [c1, c2, c3, this, errOf]
  have c3' : 1 ≤ q.symbols := by omega
  by_cases c4 : q.symbols > 16
  · have : ¬ q.symbols ≤ 16 := by omega
    simp [c1, c2, c3, c4, this, errOf]
  have c4' : q.symbols ≤ 16 := by omega
  simp only [decide_eq_false c1, decide_eq_false c2, decide_eq_false c3, decide_eq_false c4, decide_eq_true c1', decide_eq_true c2', decide_eq_true c3', decide_eq_true c4', cond_false, Bool.true_and, hv, hg, Option.bind_some, bne, errOf_ne']
  cases ((q.values.length : Nat) : Int) == q.symbols with
  | false => rfl
  | true =>
  cases within q.values 0 99 with
  | false => rfl
  | true =>
  cases ((q.nbrs.length : Nat) : Int) == q.cells with
  | false => rfl
  | true =>
  cases graphOk q.nbrs with
  | false => rfl
  | true =>
  by_cases c5 : ((q.cons.length : Nat) : Int) > 4096
  · have : ¬ q.cons.length ≤ 4096 := by omega
    simp [c5, this, errOf]
  have c5' : q.cons.length ≤ 4096 := by omega
  simp only [rvalid_loop hF c1' c2' c3' c4' c5' hn, decide_eq_false c5, decide_eq_true c5', cond_false, Bool.true_and, Bool.not_true]
theorem lvl_at {k : Int} (h : 1 ≤ k ∧ k ≤ 9) : ([0, 1, 1, 2, 2, 3, 1, 1, 4, 4] : List Int).getD k.toNat 0 = lvl k := by
  rcases kind_cases h with h | h | h | h | h | h | h | h | h <;> subst h <;> rfl
theorem kind_at (hv : validB q = true) {i : Int} (h0 : 0 ≤ i) (hi : i < (q.cons.length : Int)) : 1 ≤ (q.cons.getD i.toNat default).kind ∧ (q.cons.getD i.toNat default).kind ≤ 9 := by
  have hi' : i.toNat < q.cons.length := by omega
  have hmem : q.cons.getD i.toNat default ∈ q.cons := by rw [List.getD_eq_getElem?_getD, List.getElem?_eq_getElem hi']; exact List.getElem_mem hi'
  exact kind_range (kind_of_fine ((validB_parts hv).2.2.2.2.2 _ hmem))
theorem levelP_eq (hF : Fit q) (hn : szP q ≤ n) (i : Int) : levelP n q i = some (levelM q i) := by
  unfold levelP levelP_l0 levelM
  rw [valid_eq hF hn]
  cases hv : validB q with
  | false => rfl
  | true =>
    by_cases h0 : i < 0
    · have : ¬ (0 ≤ i ∧ i < (q.cons.length : Int)) := by omega
      simp [errOf, h0, this]
    · by_cases hi : i ≥ (q.cons.length : Int)
      · have : ¬ (0 ≤ i ∧ i < (q.cons.length : Int)) := by omega
        simp [errOf, h0, hi, this]
      · have hc : 0 ≤ i ∧ i < (q.cons.length : Int) := by omega
        have hk := kind_at hv hc.1 hc.2
        have hg : (0 ≤ i ∧ i < (q.cons.length : Int)) ∧ (0 ≤ (q.cons.getD i.toNat default).kind ∧ (q.cons.getD i.toNat default).kind < ((10 : Nat) : Int)) := ⟨hc, by omega, by omega⟩
        simp only [errOf, if_true, Option.bind_some, bne_self_eq_false, cond_false, decide_eq_false h0, decide_eq_false hi, if_pos hg, if_pos hc, lvl_at hk, Bool.true_eq_false, if_false]
theorem rlevel_eq (hF : Fit q) (hn : szP q ≤ n) (i : Int) : rlevel n q i = some (levelM q i) := by
  unfold rlevel rlevel_l0 levelM
  rw [rvalid_eq hF hn]
  cases hv : validB q with
  | false => rfl
  | true =>
    by_cases h0 : i < 0
    · have : ¬ (0 ≤ i ∧ i < (q.cons.length : Int)) := by omega
      simp [errOf, h0, this]
    · by_cases hi : i ≥ (q.cons.length : Int)
      · have : ¬ (0 ≤ i ∧ i < (q.cons.length : Int)) := by omega
        simp [errOf, h0, hi, this]
      · have hc : 0 ≤ i ∧ i < (q.cons.length : Int) := by omega
        have hk := kind_at hv hc.1 hc.2
        simp only [errOf, if_true, Option.bind_some, bne_self_eq_false, cond_false, decide_eq_false h0, decide_eq_false hi, if_pos hc, Bool.true_eq_false, if_false]
        obtain ⟨k, hk0⟩ : ∃ k, (q.cons.getD i.toNat default).kind = k := ⟨_, rfl⟩
        rw [hk0] at hk
        simp only [hk0]
        rcases kind_cases hk with h | h | h | h | h | h | h | h | h <;> subst h <;> rfl
theorem fewProblem_some (hn : q.cons.length < n) : ∃ b, fewProblem n q = some b := by
  unfold fewProblem fewProblem_l0
  have loop : q.cons.length ≤ 120 → ∃ b, fewProblem_m q n (.l1 0) = some b := fun hl => by
    have S := scan0 (fun n i => fewProblem_m q n (.l1 i)) q.cons.length 0 (fun i => if (!(decide (((q.cons.getD i default).cells.length : Int) > 20)) && !(decide (((q.cons.getD i default).runs.length : Int) > 10))) then none else some false) (fun n i _ hi => ?_) (n := n) (by omega)
    · rw [show fewProblem_m q n (.l1 0) = _ from S]
      rw [find_all]
      split
      · obtain ⟨m, hm⟩ : ∃ m, n - q.cons.length = m + 1 := ⟨n - q.cons.length - 1, by omega⟩
        exact ⟨true, by rw [hm]; simp [fewProblem_m, fewProblem_l1]⟩
      · exact ⟨false, rfl⟩
    · have hlt : (i : Int) < (q.cons.length : Int) := by omega
      have hR : R64 ((i : Int) + 1) := by rw [R64_iff]; omega
      show fewProblem_l1 n (fewProblem_m q n) q (i : Int) = _
      generalize fewProblem_m q n = self
      simp only [fewProblem_l1, hlt, hR, decide_true, cond_true, Int.natCast_nonneg, and_self, if_true, Int.toNat_natCast]
      cases decide (((q.cons.getD i default).cells.length : Int) > 20) <;> cases decide (((q.cons.getD i default).runs.length : Int) > 10) <;> rfl
  cases decide (q.cells > 16) with
  | true => exact ⟨_, rfl⟩
  | false =>
  cases decide (q.symbols > 6) with
  | true => exact ⟨_, rfl⟩
  | false =>
  cases decide (((q.values.length : Nat) : Int) > 8) with
  | true => exact ⟨_, rfl⟩
  | false =>
  cases decide (((q.nbrs.length : Nat) : Int) > 20) with
  | true => exact ⟨_, rfl⟩
  | false =>
  by_cases h : ((q.cons.length : Nat) : Int) > 120
  · rw [decide_eq_true h]; exact ⟨_, rfl⟩
  · rw [decide_eq_false h]; exact loop (by omega)
theorem few_some {pos : List Int} (hn : q.cons.length < n) : ∃ b, few n q pos = some b := by
  obtain ⟨b, hb⟩ := fewProblem_some hn
  unfold few few_l0
  rw [hb]
  cases b
  · exact ⟨_, rfl⟩
  · exact ⟨_, rfl⟩
end
end Go.Proofs.YtekkngkphejfcaaDoor
namespace Go.Proofs.YtekkngkphejfcaaDoor
open Go.ChangeShapes Go.WideShapes Go.ChangeAt Go.RowKit
theorem own : ownKnob Tryd.prog.godebug = none := by kernel_rfl
theorem laidOutP : laidOutB Tryd.prog = true := by kernel_rfl
theorem bytes3 : 0 < Tryd.prog.bytesOf 3 := Nat.le_of_ble_eq_true (by kernel_rfl)
theorem rdI : Rd Tryd.prog 3 1 (fun n : Int => [.int .i64 n]) := Rd.int Tryd.underlying3 (by kernel_rfl)
theorem rdInts : Rd Tryd.prog 22 1 intsC := Rd.ints Tryd.underlying22 (by kernel_rfl) bytes3 Tryd.underlying3 (by kernel_rfl)
theorem rdRows : Rd Tryd.prog 23 1 (fun L : List (List Int) => [.sl 1 L.length (rowE intsC L)]) := Rd.rows Tryd.underlying23 (by kernel_rfl) (Nat.le_of_ble_eq_true (by kernel_rfl)) Nat.zero_lt_one rdInts
set_option maxRecDepth 100000 in
theorem rdCons : Rd Tryd.prog 38 9 consC := by
  refine Rd.struct Tryd.underlying38 (by kernel_rfl)
    (RdFs.cons rfl rdI <| RdFs.cons rfl rdInts <| RdFs.cons rfl rdI <| RdFs.cons rfl rdI <| RdFs.cons rfl rdI <| RdFs.cons rfl rdI <| RdFs.cons rfl rdInts <| RdFs.cons rfl rdI <| RdFs.cons rfl rdI <| RdFs.nil rfl)
    (fun x : Int × List Int × Int × Int × Int × Int × List Int × Int × Int × Unit => (⟨x.1, x.2.1, x.2.2.1, x.2.2.2.1, x.2.2.2.2.1, x.2.2.2.2.2.1, x.2.2.2.2.2.2.1, x.2.2.2.2.2.2.2.1, x.2.2.2.2.2.2.2.2.1⟩ : ConsD)) ?_ (fun _ => rfl)
  intro x; rfl
theorem rdConses : Rd Tryd.prog 24 1 (fun L : List ConsD => [.sl 9 L.length (rowE consC L)]) := Rd.rows Tryd.underlying24 (by kernel_rfl) (Nat.le_of_ble_eq_true (by kernel_rfl)) (by decide) rdCons
set_option maxRecDepth 100000 in
theorem rdProb : Rd Tryd.prog 26 5 probC := by
  refine Rd.struct Tryd.underlying26 (by kernel_rfl)
    (RdFs.cons rfl rdI <| RdFs.cons rfl rdI <| RdFs.cons rfl rdInts <| RdFs.cons rfl rdRows <| RdFs.cons rfl rdConses <| RdFs.nil rfl)
    (fun x : Int × Int × List Int × List (List Int) × List ConsD × Unit => (⟨x.1, x.2.1, x.2.2.1, x.2.2.2.1, x.2.2.2.2.1⟩ : ProbD)) ?_ (fun _ => rfl)
  intro x; rfl
theorem rvProb : RdV Tryd.prog 26 (fun q : ProbD => .agg 5 (L1 (probC q))) := RdV.agg Tryd.underlying26 rdProb
theorem rvInt : RdV Tryd.prog 3 (fun n : Int => .int .i64 n) := RdV.int Tryd.underlying3
theorem Fit.of {M : Nat → Prop} {w : World} {ρ : List Place} {q : ProbD} {v : Value} (h : RepV M w (.agg 5 (L1 (probC q))) ρ v) : Fit q := by
  obtain ⟨cs, _, _, hc⟩ := h
  have row : ∀ {α : Type} [Inhabited α] {m : Nat} {c : α → List DV} {L : List α} {u : Value}, 0 < m → RepV M w (.sl m L.length (rowE c L)) ρ u → ∀ x ∈ L, ∀ j, j < m → ∃ u, RepV M w ((c x).getD j .any) [] u := by
    intro α _ m c L u hm ⟨a, cap, _, _, _, hh⟩ x hx j hj
    obtain ⟨i, hi, rfl⟩ := List.getElem_of_mem hx
    obtain ⟨b, o, u, _, _, _, hr⟩ := hh i j hi hj
    refine ⟨u, ?_⟩
    have e : L.getD i default = L[i] := by simp [hi]
    have hr : RepV M w ((c (L.getD i default)).getD j .any) [] u := hr
    rw [e] at hr; exact hr
  refine ⟨?_, fun r hr => ?_, fun c hcm => ?_, fun c hcm => ?_⟩
  · obtain ⟨u, _, h2⟩ := hc 2 (by decide)
    exact ints_le h2
  · obtain ⟨u, _, h3⟩ := hc 3 (by decide)
    obtain ⟨u, h⟩ := row (c := intsC) (L := q.nbrs) Nat.zero_lt_one h3 r hr 0 Nat.zero_lt_one
    exact ints_le h
  · obtain ⟨u, _, h4⟩ := hc 4 (by decide)
    obtain ⟨u, h⟩ := row (c := consC) (L := q.cons) (by decide) h4 c hcm 1 (by decide)
    exact ints_le h
  · obtain ⟨u, _, h4⟩ := hc 4 (by decide)
    obtain ⟨u, h⟩ := row (c := consC) (L := q.cons) (by decide) h4 c hcm 6 (by decide)
    exact ints_le h
theorem gTab : Tryd.prog.globalNamed "math/bits.deBruijn64tab" = some 1 := by kernel_rfl
theorem gTabType : (Tryd.prog.globals[1]?).map (·.type) = some 122 := by kernel_rfl
/-- What a law's row lists: the two tables. -/
abbrev laidTabs {H : Type} : List (String × DataW H) := [("math/bits.deBruijn32tab", Rows.laid_math_bits_deBruijn32tab), ("math/bits.deBruijn64tab", Rows.laid_math_bits_deBruijn64tab)]
theorem table {W : World} (h : laidMetH Tryd.prog laidTabs W) : Lib.TabIs Tryd.prog W "math/bits.deBruijn64tab" .u8 (Lib.deBruijn64tab.map Int.ofNat) :=
  Lib.tabIs_of_head (rest := []) gTab gTabType Tryd.underlying122 Tryd.underlying5 (by kernel_rfl) (by kernel_rfl) (laidMet.tail (show laidMet Tryd.prog laidTabs W from h))
theorem table_gi {W : World} (h : laidMetH Tryd.prog laidTabs W) : GG.gi W := by
  have T := table h
  have c : ∀ j, j < 64 → W.cell? ⟨1, j, none⟩ = some (.int .u8 ((Lib.deBruijn64tab.map Int.ofNat).getD j 0)) := fun j hj => T.cell gTab j (by rw [List.length_map]; exact hj)
  refine ⟨fun j hj => ?_, ?_⟩
  · have hj : j < 64 := hj
    rw [c j hj]
    have : (Lib.deBruijn64tab.map Int.ofNat).getD j 0 = ((Lib.deBruijn64tab.getD j 0 : Nat) : Int) := by
      have hl : j < Lib.deBruijn64tab.length := hj
      simp [List.getD_eq_getElem?_getD, hl]
    rw [this]
  · have := World.block_lt_of_cell? W _ (c 0 (by decide))
    exact this
/-- A world for the witness: the settled one, the tables as their initialisers lay them. -/
def layTab (l : List Nat) (o : Obj) : Obj := match o with
  | .cells _ t frozen => .cells (l.map fun n => Value.int .u8 (Int.ofNat n)).toArray t frozen
  | o => o
noncomputable def laidWorld (os : Os) : World :=
  { World.holding Tryd.prog os ⟨#[], #[], []⟩ with heap := ((World.holding Tryd.prog os ⟨#[], #[], []⟩).heap.modify 0 (layTab Lib.deBruijn32tab)).modify 1 (layTab Lib.deBruijn64tab) }
/-- The empty problem. -/
def prob0 : Value := .agg #[.int .i64 0, .int .i64 0, .slice none 0 0, .slice none 0 0, .slice none 0 0]
end Go.Proofs.YtekkngkphejfcaaDoor
