/- Part 5 of 6 of what the proofs of these laws stand on. -/
import Derived.Test.YtekkngkphejfcaaDoorPkD
set_option linter.all false
namespace Go.Proofs.YtekkngkphejfcaaDoor
open Go.RowKit
section
variable {k : Nat}
theorem pair_fold {T1 T2 : Type} (mk1 : List Int → Int → Int → T1) (mk2 : List Int → Int → Int → T2) (f1 : Int → Int → T1 → Option T1) (f2 : Int → T2 → Option T2) (ok : Nat → Nat → Bool) {a b : Int} (ha : Sm k a) (hb : Sm k b) (hk : k ≤ 16)
    (h1 : ∀ (s t : Nat) (l : List Int) (x y : Int), s < k → t < k → f1 s t (mk1 l x y) = some (bif ok s t then mk1 l (bits .or .i64 x (IntKind.i64.wrap (1 * 2 ^ s))) (bits .or .i64 y (IntKind.i64.wrap (1 * 2 ^ t))) else mk1 l x y))
    (h2 : ∀ (s : Nat) (l : List Int) (x y x' y' : Int), s < k → foldO (f1 s) (symsI b) (mk1 l x y) = some (mk1 l x' y') → f2 s (mk2 l x y) = some (mk2 l x' y')) (l : List Int) :
    ∃ x y, foldO f2 (symsI a) (mk2 l 0 0) = some (mk2 l x y) ∧ (∀ u, tb x u = true ↔ tb a u = true ∧ ∃ t, tb b t = true ∧ ok u t = true) ∧ (∀ u, tb y u = true ↔ tb b u = true ∧ ∃ s, tb a s = true ∧ ok s u = true) := by
  have k62 : k ≤ 62 := Nat.le_trans hk (by decide)
  have inner : ∀ (s : Nat) (x y : Int), s < k → ∃ x' y', foldO (f1 s) (symsI b) (mk1 l x y) = some (mk1 l x' y') ∧ (∀ u, tb x' u = true ↔ tb x u = true ∨ (u = s ∧ ∃ t, tb b t = true ∧ ok s t = true)) ∧ (∀ u, tb y' u = true ↔ tb y u = true ∨ (tb b u = true ∧ ok s u = true)) := by
    intro s x y hs
    have key := foldO_inv (f := f1 s) (fun pre st => ∃ x' y', st = mk1 l x' y' ∧ (∀ u, tb x' u = true ↔ tb x u = true ∨ (u = s ∧ ∃ t : Nat, (t : Int) ∈ pre ∧ ok s t = true)) ∧ (∀ u : Nat, tb y' u = true ↔ tb y u = true ∨ ((u : Int) ∈ pre ∧ ok s u = true)))
      (symsI b) [] (mk1 l x y) ⟨x, y, rfl, fun u => ⟨.inl, fun h => h.elim id fun ⟨_, t, h, _⟩ => (by cases h)⟩, fun u => ⟨.inl, fun h => h.elim id fun ⟨h, _⟩ => (by cases h)⟩⟩ ?_
    · obtain ⟨st, e, x', y', rfl, hx, hy⟩ := key
      refine ⟨x', y', e, fun u => ?_, fun u => ?_⟩
      · rw [hx, List.nil_append]
        constructor
        · rintro (h | ⟨e1, t, h, h3⟩)
          · exact .inl h
          · obtain ⟨t', e2, _, h4⟩ := (mem_symsI hb k62).1 h
            have : t = t' := by omega
            subst this
            exact .inr ⟨e1, t, h4, h3⟩
        · rintro (h | ⟨e1, t, h, h3⟩)
          · exact .inl h
          · exact .inr ⟨e1, t, (mem_symsI hb k62).2 ⟨t, rfl, Nat.lt_of_not_le fun hle => (by rw [hb.hi hle] at h; cases h), h⟩, h3⟩
      · rw [hy, List.nil_append]
        constructor
        · rintro (h | ⟨h, h3⟩)
          · exact .inl h
          · obtain ⟨t', e2, _, h4⟩ := (mem_symsI hb k62).1 h
            have : u = t' := by omega
            subst this
            exact .inr ⟨h4, h3⟩
        · rintro (h | ⟨h, h3⟩)
          · exact .inl h
          · exact .inr ⟨(mem_symsI hb k62).2 ⟨u, rfl, Nat.lt_of_not_le fun hle => (by rw [hb.hi hle] at h; cases h), h⟩, h3⟩
    · rintro pre e _ he ⟨x', y', rfl, hx, hy⟩
      obtain ⟨t, rfl, ht, _⟩ := (mem_symsI hb k62).1 he
      rw [h1 s t l x' y' hs ht]
      cases ho : ok s t
      · rw [cond_false]
        refine ⟨_, rfl, x', y', rfl, fun u => ?_, fun u => ?_⟩
        · rw [hx]
          constructor
          · rintro (h | ⟨e1, t', h, h3⟩)
            · exact .inl h
            · exact .inr ⟨e1, t', List.mem_append_left _ h, h3⟩
          · rintro (h | ⟨e1, t', h, h3⟩)
            · exact .inl h
            · rcases List.mem_append.1 h with h | h
              · exact .inr ⟨e1, t', h, h3⟩
              · have : t' = t := by have := List.mem_singleton.1 h; omega
                subst this
                rw [ho] at h3; cases h3
        · rw [hy]
          constructor
          · rintro (h | ⟨h, h3⟩)
            · exact .inl h
            · exact .inr ⟨List.mem_append_left _ h, h3⟩
          · rintro (h | ⟨h, h3⟩)
            · exact .inl h
            · rcases List.mem_append.1 h with h | h
              · exact .inr ⟨h, h3⟩
              · have : u = t := by have := List.mem_singleton.1 h; omega
                subst this
                rw [ho] at h3; cases h3
      · rw [cond_true]
        refine ⟨_, rfl, _, _, rfl, fun u => ?_, fun u => ?_⟩
        · rw [tb_or, Bool.or_eq_true, hx, tb_shl (by omega), decide_eq_true_iff]
          constructor
          · rintro ((h | ⟨e1, t', h, h3⟩) | rfl)
            · exact .inl h
            · exact .inr ⟨e1, t', List.mem_append_left _ h, h3⟩
            · exact .inr ⟨rfl, t, List.mem_append_right _ (.head _), ho⟩
          · rintro (h | ⟨e1, t', h, h3⟩)
            · exact .inl (.inl h)
            · exact .inr e1.symm
        · rw [tb_or, Bool.or_eq_true, hy, tb_shl (by omega), decide_eq_true_iff]
          constructor
          · rintro ((h | ⟨h, h3⟩) | rfl)
            · exact .inl h
            · exact .inr ⟨List.mem_append_left _ h, h3⟩
            · exact .inr ⟨List.mem_append_right _ (.head _), ho⟩
          · rintro (h | ⟨h, h3⟩)
            · exact .inl (.inl h)
            · rcases List.mem_append.1 h with h | h
              · exact .inl (.inr ⟨h, h3⟩)
              · exact .inr (by have := List.mem_singleton.1 h; omega)
  have key := foldO_inv (f := f2) (fun pre st => ∃ x y, st = mk2 l x y ∧ (∀ u : Nat, tb x u = true ↔ (u : Int) ∈ pre ∧ ∃ t, tb b t = true ∧ ok u t = true) ∧ (∀ u, tb y u = true ↔ tb b u = true ∧ ∃ s : Nat, (s : Int) ∈ pre ∧ ok s u = true))
    (symsI a) [] (mk2 l 0 0) ⟨0, 0, rfl, fun u => ⟨fun h => absurd h tb0, fun ⟨h, _⟩ => (by cases h)⟩, fun u => ⟨fun h => absurd h tb0, fun ⟨_, s, h, _⟩ => (by cases h)⟩⟩ ?_
  · obtain ⟨st, e, x, y, rfl, hx, hy⟩ := key
    refine ⟨x, y, e, fun u => ?_, fun u => ?_⟩
    · rw [hx, List.nil_append]
      constructor
      · rintro ⟨h, h2⟩
        obtain ⟨t', e2, _, h4⟩ := (mem_symsI ha k62).1 h
        have : u = t' := by omega
        subst this
        exact ⟨h4, h2⟩
      · rintro ⟨h, h2⟩
        exact ⟨(mem_symsI ha k62).2 ⟨u, rfl, Nat.lt_of_not_le fun hle => (by rw [ha.hi hle] at h; cases h), h⟩, h2⟩
    · rw [hy, List.nil_append]
      constructor
      · rintro ⟨h0, s, h, h3⟩
        obtain ⟨t', e2, _, h4⟩ := (mem_symsI ha k62).1 h
        have : s = t' := by omega
        subst this
        exact ⟨h0, s, h4, h3⟩
      · rintro ⟨h0, s, h, h3⟩
        exact ⟨h0, s, (mem_symsI ha k62).2 ⟨s, rfl, Nat.lt_of_not_le fun hle => (by rw [ha.hi hle] at h; cases h), h⟩, h3⟩
  · rintro pre e _ he ⟨x, y, rfl, hx, hy⟩
    obtain ⟨s, rfl, hs, _⟩ := (mem_symsI ha k62).1 he
    obtain ⟨x', y', e1, hx', hy'⟩ := inner s x y hs
    refine ⟨_, h2 s l x y x' y' hs e1, x', y', rfl, fun u => ?_, fun u => ?_⟩
    · rw [hx', hx]
      constructor
      · rintro (⟨h, h2⟩ | ⟨rfl, h2⟩)
        · exact ⟨List.mem_append_left _ h, h2⟩
        · exact ⟨List.mem_append_right _ (.head _), h2⟩
      · rintro ⟨h, h2⟩
        rcases List.mem_append.1 h with h | h
        · exact .inl ⟨h, h2⟩
        · have : u = s := by have := List.mem_singleton.1 h; omega
          subst this
          exact .inr ⟨rfl, h2⟩
    · rw [hy', hy]
      constructor
      · rintro (⟨h, s', h2, h3⟩ | ⟨h, h2⟩)
        · exact ⟨h, s', List.mem_append_left _ h2, h3⟩
        · exact ⟨h, s, List.mem_append_right _ (.head _), h2⟩
      · rintro ⟨h, s', h2, h3⟩
        rcases List.mem_append.1 h2 with h2 | h2
        · exact .inl ⟨h, s', h2, h3⟩
        · have : s' = s := by have := List.mem_singleton.1 h2; omega
          subst this
          exact .inr ⟨h, h3⟩
end
theorem bit_and {s : Nat} (hs : s < 64) (x : Int) : (bits .and .i64 (IntKind.i64.wrap (1 * 2 ^ s)) x == 0) = !tb x s := by
  rw [Bool.eq_iff_iff, beq_iff_eq, tb_eq_zero (bits_in _ _ _)]
  constructor
  · intro h
    have := h s hs
    rw [tb_and, tb_shl hs, decide_eq_true rfl, Bool.true_and] at this
    rw [this]; rfl
  · intro h i hi
    rw [tb_and, tb_shl hs]
    by_cases e : s = i
    · subst e
      rw [decide_eq_true rfl, Bool.true_and]
      cases hx : tb x s
      · rfl
      · rw [hx] at h; cases h
    · rw [decide_eq_false e, Bool.false_and]
def okA (q : ProbD) (c : ConsD) (s t : Nat) : Bool := decide ((if 0 - (q.values.getD s 0 - q.values.getD t 0) > q.values.getD s 0 - q.values.getD t 0 then 0 - (q.values.getD s 0 - q.values.getD t 0) else q.values.getD s 0 - q.values.getD t 0) ≥ c.lo)
def okN (c : ConsD) (s t : Nat) : Bool := (!tb c.set s || !tb c.other t) && (!tb c.set t || !tb c.other s)
/-- A symbol of one of the two cells has no partner. -/
def pairD (ok : Nat → Nat → Bool) (c : ConsD) (pos : List Int) (a s : Nat) : Prop :=
  if a = 0 then ¬ ∃ t, tb (setAt c pos 1) t = true ∧ ok s t = true else ¬ ∃ t, tb (setAt c pos 0) t = true ∧ ok t s = true
section
variable {c : ConsD} {k : Nat} {pos lost : List Int} {q : ProbD}
theorem apart_some {n ln : Nat} (V : Vals q k) {s t : Nat} (hs : s < k) (ht : t < k) : apartF n s t c q pos ln lost = some (okA q c s t, lost) := by
  have h1 := V.val s hs
  have h2 := V.val t ht
  have h3 := V.len
  unfold apartF apartF_l0
  simp only [Int.toNat_natCast]
  rw [if_pos ⟨by omega, by omega, R64_iff.2 ⟨by omega, by omega⟩, R64_iff.2 ⟨by omega, by omega⟩⟩]
  rfl
theorem not_some {n ln : Nat} {s t : Nat} (hs : s < 64) (ht : t < 64) : notF n s t c q pos ln lost = some (okN c s t, lost) := by
  have g : ∀ s : Nat, s < 64 → (0 : Int) ≤ (s : Int) ∧ (s : Int) ≤ ((IntKind.i64.bits : Nat) : Int) := fun s hs => ⟨by omega, by show (s : Int) ≤ 64; omega⟩
  unfold notF notF_l0
  simp only [Int.toNat_natCast]
  rw [if_pos ⟨g s hs, g t ht⟩, bit_and hs, bit_and hs, bit_and ht, bit_and ht]
  unfold okN
  cases tb c.set s <;> cases tb c.set t <;> cases tb c.other s <;> cases tb c.other t <;> rfl
theorem pair_end {n : Nat} (W : Work c k pos) (h2 : c.cells.length = 2) (hl : lost.length = pos.length) (ok : Nat → Nat → Bool) {x y : Int}
    (hx : ∀ u, tb x u = true ↔ tb (setAt c pos 0) u = true ∧ ∃ t, tb (setAt c pos 1) t = true ∧ ok u t = true) (hy : ∀ u, tb y u = true ↔ tb (setAt c pos 1) u = true ∧ ∃ s, tb (setAt c pos 0) s = true ∧ ok s u = true) :
    ∃ l1 l, loseW n (c.cells.getD 0 0) (bits .xor .i64 (-1) x) c q pos pos.length lost = some l1 ∧ loseW n (c.cells.getD 1 0) (bits .xor .i64 (-1) y) c q pos pos.length l1 = some l ∧ LostBy c pos lost c.cells.length (pairD ok c pos) l := by
  have c0 := W.cells 0 (by omega)
  have c1 := W.cells 1 (by omega)
  obtain ⟨l1, e1, n1, f1⟩ := lose_some (lost := lost) (n := n) (ss := bits .xor .i64 (-1) x) (c := c) (q := q) c0.1 c0.2 hl
  obtain ⟨l, e2, n2, f2⟩ := lose_some (lost := l1) (n := n) (ss := bits .xor .i64 (-1) y) (c := c) (q := q) c1.1 c1.2 n1
  refine ⟨l1, l, e1, e2, ?_⟩
  have lt : ∀ {a : Nat} {s : Nat}, a < c.cells.length → tb (setAt c pos a) s = true → s < 64 := fun {a s} ha h => Nat.lt_of_not_le fun hle => by rw [tb_ge hle] at h; cases h
  rw [h2]
  refine LostBy.step (i := 1) (l := l1) (LostBy.step (i := 0) (l := lost) (LostBy.zero hl) n1 fun j s => ?_) n2 fun j s => ?_
  · rw [f1, Bool.or_eq_true, Bool.and_eq_true, Bool.and_eq_true, decide_eq_true_iff]
    constructor
    · rintro (h | ⟨rfl, h3, h4⟩)
      · exact .inl h
      · refine .inr ⟨rfl, h3, ?_⟩
        rw [tb_not _ (lt (a := 0) (by omega) h3)] at h4
        unfold pairD
        rw [if_pos rfl]
        intro h5
        rw [(hx s).2 ⟨h3, h5⟩] at h4; cases h4
    · rintro (h | ⟨rfl, h3, h4⟩)
      · exact .inl h
      · refine .inr ⟨rfl, h3, ?_⟩
        rw [tb_not _ (lt (a := 0) (by omega) h3)]
        unfold pairD at h4
        rw [if_pos rfl] at h4
        cases hb : tb x s
        · rfl
        · exact absurd ((hx s).1 hb).2 h4
  · rw [f2, Bool.or_eq_true, Bool.and_eq_true, Bool.and_eq_true, decide_eq_true_iff]
    constructor
    · rintro (h | ⟨rfl, h3, h4⟩)
      · exact .inl h
      · refine .inr ⟨rfl, h3, ?_⟩
        rw [tb_not _ (lt (a := 1) (by omega) h3)] at h4
        unfold pairD
        rw [if_neg (by decide)]
        intro h5
        rw [(hy s).2 ⟨h3, h5⟩] at h4; cases h4
    · rintro (h | ⟨rfl, h3, h4⟩)
      · exact .inl h
      · refine .inr ⟨rfl, h3, ?_⟩
        rw [tb_not _ (lt (a := 1) (by omega) h3)]
        unfold pairD at h4
        rw [if_neg (by decide)] at h4
        cases hb : tb y s
        · rfl
        · exact absurd ((hy s).1 hb).2 h4
theorem apartW_some {n : Nat} (W : Work c k pos) (V : Vals q k) (h2 : c.cells.length = 2) (hl : lost.length = pos.length) :
    ∃ l, apartW n c q pos pos.length lost = some (true, l) ∧ LostBy c pos lost c.cells.length (pairD (okA q c) c pos) l := by
  have c0 := W.cells 0 (by omega)
  have c1 := W.cells 1 (by omega)
  have s0 := W.at (a := 0) (by omega)
  have s1 := W.at (a := 1) (by omega)
  have hk := W.k
  have g : ∀ s : Nat, s < k → (0 : Int) ≤ (s : Int) ∧ (s : Int) ≤ ((IntKind.i64.bits : Nat) : Int) := fun s hs => ⟨by omega, by show (s : Int) ≤ 64; omega⟩
  obtain ⟨x, y, e, hx, hy⟩ := pair_fold pairA_b42_b45T.s0 pairA_b42T.s0 (pairA_b42_b45 n c q pos pos.length) (pairA_b42 n c q pos pos.length) (okA q c) s0 s1 hk
    (fun s t l x y hs ht => by
      unfold pairA_b42_b45 pairA_b42_b45_l0 pairA_b42_b45_e0
      dsimp only
      rw [apart_some V hs ht, Option.bind_some]
      cases okA q c s t
      · rfl
      · simp only [cond_true, Int.toNat_natCast]
        rw [if_pos ⟨g s hs, g t ht⟩])
    (fun s l x y x' y' hs he => by
      unfold pairA_b42 pairA_b42_l0 pairA_b42_e0
      dsimp only
      rw [if_pos (show 0 ≤ pos.getD (c.cells.getD 1 0).toNat 0 ∧ pos.getD (c.cells.getD 1 0).toNat 0 < 9223372036854775808 from s1.i63 hk)]
      refine (congrArg (fun z => Option.bind z _) he).trans ?_
      rfl) lost
  obtain ⟨l1, l, e1, e2, hL⟩ := pair_end (n := n) (q := q) W h2 hl (okA q c) hx hy
  refine ⟨l, ?_, hL⟩
  unfold apartW apartW_l0 pairA pairA_l0
  rw [if_pos ⟨by omega, by omega, c0, c1, s0.i63 hk⟩]
  refine (congrArg (fun z => Option.bind (Option.bind z _) _) e).trans ?_
  rw [Option.bind_some]
  simp only
  rw [e1, Option.bind_some, e2]
  rfl
theorem notW_some {n : Nat} (W : Work c k pos) (h2 : c.cells.length = 2) (hl : lost.length = pos.length) :
    ∃ l, notW n c q pos pos.length lost = some (true, l) ∧ LostBy c pos lost c.cells.length (pairD (okN c) c pos) l := by
  have c0 := W.cells 0 (by omega)
  have c1 := W.cells 1 (by omega)
  have s0 := W.at (a := 0) (by omega)
  have s1 := W.at (a := 1) (by omega)
  have hk := W.k
  have g : ∀ s : Nat, s < k → (0 : Int) ≤ (s : Int) ∧ (s : Int) ≤ ((IntKind.i64.bits : Nat) : Int) := fun s hs => ⟨by omega, by show (s : Int) ≤ 64; omega⟩
  obtain ⟨x, y, e, hx, hy⟩ := pair_fold pairN_b42_b45T.s0 pairN_b42T.s0 (pairN_b42_b45 n c q pos pos.length) (pairN_b42 n c q pos pos.length) (okN c) s0 s1 hk
    (fun s t l x y hs ht => by
      unfold pairN_b42_b45 pairN_b42_b45_l0 pairN_b42_b45_e0
      dsimp only
      rw [not_some (by omega) (by omega), Option.bind_some]
      cases okN c s t
      · rfl
      · simp only [cond_true, Int.toNat_natCast]
        rw [if_pos ⟨g s hs, g t ht⟩])
    (fun s l x y x' y' hs he => by
      unfold pairN_b42 pairN_b42_l0 pairN_b42_e0
      dsimp only
      rw [if_pos (show 0 ≤ pos.getD (c.cells.getD 1 0).toNat 0 ∧ pos.getD (c.cells.getD 1 0).toNat 0 < 9223372036854775808 from s1.i63 hk)]
      refine (congrArg (fun z => Option.bind z _) he).trans ?_
      rfl) lost
  obtain ⟨l1, l, e1, e2, hL⟩ := pair_end (n := n) (q := q) W h2 hl (okN c) hx hy
  refine ⟨l, ?_, hL⟩
  unfold notW notW_l0 pairN pairN_l0
  rw [if_pos ⟨by omega, by omega, c0, c1, s0.i63 hk⟩]
  refine (congrArg (fun z => Option.bind (Option.bind z _) _) e).trans ?_
  rw [Option.bind_some]
  simp only
  rw [e1, Option.bind_some, e2]
  rfl
end
end Go.Proofs.YtekkngkphejfcaaDoor
namespace Go.Proofs.YtekkngkphejfcaaDoor
open Go.RowKit
set_option maxRecDepth 100000
set_option maxHeartbeats 40000000
def t_nodesW_1 : ST := .rd 0 (.rd 1 (.rd 2 (.rd 3 (.rd 4 (.rd 6 (.rd 7 (.rd 8 (.rd 9 (.rd 10 (.ef 5 (.rd 12 (.ef 11 (.rd 13 (.fin [0, 1] [0, 2, 3])) (.no))) (.ef 11 (.ef 5 (.rd 12 (.rd 13 (.fin [1, 0] [0, 2, 3]))) (.no)) (.no))))))))))))
theorem s_nodesW_1 : TOk (regF Tryd.f67 1) [5, 11] t_nodesW_1 := by unfold TOk; kernel_rfl
def t_nodesW_5 : ST := .rd 0 (.rd 1 (.rd 2 (.rd 3 (.rd 4 (.rd 5 (.rd 6 (.rd 7 (.rd 8 (.rd 9 (.rd 10 (.rd 11 (.rd 12 (.rd 13 (.rd 14 (.rd 15 (.rd 16 (.rd 17 (.rd 18 (.rd 19 (.rd 20 (.rd 21 (.rd 22 (.rd 23 (.rd 24 (.rd 25 (.rd 26 (.rd 27 (.rd 28 (.rd 29 (.rd 30 (.rd 31 (.rd 32 (.ef 33 (.rd 34 (.ef 35 (.fin [] [0, 2, 3, 30, 31, 32]) (.no))) (.no))))))))))))))))))))))))))))))))))
theorem s_nodesW_5 : TOk (regF Tryd.f67 5) [33] t_nodesW_5 := by unfold TOk; kernel_rfl
def sch_nodesW : Sch := fun i => match i with
  | 1 => .tre [5, 11] t_nodesW_1
  | 5 => .tre [33] t_nodesW_5
  | _ => .no
def tgt_nodesW_0 (pos : List Int) (c : ConsD) (q : ProbD) (ln : Nat) (lost : List Int) : St := ⟨(frm 120 [(0, .ref 0 0), (2, .msl 2 1 0 pos.length), (3, .msl 3 1 0 pos.length)]), ([some (.cells (consC c ++ probC q ++ [.ints pos, .msl 1 1 0 ln])), some (.ints lost), some (.bools (List.replicate pos.length false)), some (.bools (List.replicate pos.length false))] : DH)⟩
def tgt_nodesW_1 (pos : List Int) (c : ConsD) (x32 : Int) (q : ProbD) (ln : Nat) (lost : List Int) (o2 o3 : List Bool) : St := ⟨(frm 120 [(0, .ref 0 0), (2, .msl 2 1 0 pos.length), (3, .msl 3 1 0 pos.length), (30, .ints c.cells), (31, .i (c.cells.length : Int)), (32, .i x32)]), ([some (.cells (consC c ++ probC q ++ [.ints pos, .msl 1 1 0 ln])), some (.ints lost), some (.bools (o2.set (0 + ((c.cells.getD ((x32).toNat) 0).toNat)) ((bits .and .i64 (pos.getD ((c.cells.getD ((x32).toNat) 0).toNat) 0) c.set) != 0))), some (.bools (o3.set (0 + ((c.cells.getD ((x32).toNat) 0).toNat)) ((bits .andNot .i64 (pos.getD ((c.cells.getD ((x32).toNat) 0).toNat) 0) c.set) == 0)))] : DH)⟩
def hp_nodesW_2 (c : ConsD) (q : ProbD) (pos : List Int) (ln : Nat) (lost : List Int) (o2 o3 : List Bool) : DH := [some (.cells (consC c ++ probC q ++ [.ints pos, .msl 1 1 0 ln])), some (.ints lost), some (.bools o2), some (.bools o3)]
def hp_nodesW_3 (c : ConsD) (q : ProbD) (pos : List Int) (ln : Nat) (lost : List Int) (o3 : List Bool) (y2 : (List Bool)) : DH := [some (.cells (consC c ++ probC q ++ [.ints pos, .msl 1 1 0 ln])), some (.ints lost), none, some (.bools o3), some (.bools y2)]
inductive nodesWPt where
  | l1 (x32 : Int) (o2 o3 : List Bool)
  | l2 (x2t2 : List Bool) (x8 : Nat) (x90 : List Int) (x91 x92 : Int) (o2 o3 : List Bool)
  | l3 (x2t2 : List Bool) (x8 : Nat) (x101 x102 : Int) (o1 : List Int) (o2 o3 : List Bool)
def nodesW_l1 (n : Nat) (self : nodesWPt → Option ((List Bool) × (List Bool) × Bool × (List Int))) (c : ConsD) (q : ProbD) (pos : List Int) (ln : Nat) (lost : List Int) (x32 : Int) (o2 o3 : List Bool) : Option ((List Bool) × (List Bool) × Bool × (List Int)) :=
  bif (decide (x32 < (c.cells.length : Int))) then
   if (0 ≤ x32 ∧ x32 < (c.cells.length : Int)) ∧ (0 ≤ (c.cells.getD ((x32).toNat) 0) ∧ (c.cells.getD ((x32).toNat) 0) < (pos.length : Int)) ∧ 0 + ((c.cells.getD ((x32).toNat) 0).toNat) < o2.length ∧ 0 + ((c.cells.getD ((x32).toNat) 0).toNat) < o3.length ∧ R64 (x32 + 1) then
    self (.l1 (x32 + 1) (o2.set (0 + ((c.cells.getD ((x32).toNat) 0).toNat)) ((bits .and .i64 (pos.getD ((c.cells.getD ((x32).toNat) 0).toNat) 0) c.set) != 0)) (o3.set (0 + ((c.cells.getD ((x32).toNat) 0).toNat)) ((bits .andNot .i64 (pos.getD ((c.cells.getD ((x32).toNat) 0).toNat) 0) c.set) == 0)))
   else none
  else
   if pos.length = o3.length then
    (indexB n o3 true).bind fun y1 =>
     bif (decide (y1 < 0)) then
      if pos.length = o2.length then
       some (o2, o3, false, lost)
      else none
     else
      if pos.length = o2.length then
       (cloneB n o2).bind fun y2 =>
        (component n q.nbrs o2 y1).bind fun y3 =>
         self (.l2 o2 y2.length y3.1 (y3.1.length : Int) 0 o3 y2)
      else none
   else none
def nodesW_l2 (n : Nat) (self : nodesWPt → Option ((List Bool) × (List Bool) × Bool × (List Int))) (c : ConsD) (q : ProbD) (pos : List Int) (ln : Nat) (lost : List Int) (x2t2 : List Bool) (x8 : Nat) (x90 : List Int) (x91 x92 : Int) (o2 o3 : List Bool) : Option ((List Bool) × (List Bool) × Bool × (List Int)) :=
  bif (decide (x92 < x91)) then
   if (0 ≤ x92 ∧ x92 < (x90.length : Int)) ∧ (0 ≤ (x90.getD ((x92).toNat) 0) ∧ (x90.getD ((x92).toNat) 0) < (x8 : Int)) ∧ 0 + ((x90.getD ((x92).toNat) 0).toNat) < o3.length ∧ R64 (x92 + 1) then
    self (.l2 x2t2 x8 x90 x91 (x92 + 1) o2 (o3.set (0 + ((x90.getD ((x92).toNat) 0).toNat)) false))
   else none
  else
   self (.l3 x2t2 x8 (x8 : Int) 0 lost o2 o3)
def nodesW_l3 (n : Nat) (self : nodesWPt → Option ((List Bool) × (List Bool) × Bool × (List Int))) (c : ConsD) (q : ProbD) (pos : List Int) (ln : Nat) (lost : List Int) (x2t2 : List Bool) (x8 : Nat) (x101 x102 : Int) (o1 : List Int) (o2 o3 : List Bool) : Option ((List Bool) × (List Bool) × Bool × (List Int)) :=
  bif (decide (x102 < x101)) then
   if (0 ≤ x102 ∧ x102 < (x8 : Int)) ∧ 0 + ((x102).toNat) < o3.length then
    bif (o3.getD (0 + ((x102).toNat)) false) then
     (loseW n x102 c.set c q pos ln o1).bind fun y1 =>
      if R64 (x102 + 1) then
       self (.l3 x2t2 x8 x101 (x102 + 1) y1 o2 o3)
      else none
    else
     if R64 (x102 + 1) then
      self (.l3 x2t2 x8 x101 (x102 + 1) o1 o2 o3)
     else none
   else none
  else
   if pos.length = o2.length then
    some (x2t2, o2, true, o1)
   else none
def nodesW_l0 (n : Nat) (self : nodesWPt → Option ((List Bool) × (List Bool) × Bool × (List Int))) (c : ConsD) (q : ProbD) (pos : List Int) (ln : Nat) (lost : List Int) : Option ((List Bool) × (List Bool) × Bool × (List Int)) :=
  if ((pos.length : Int) : Int) = (pos.length : Int) ∧ 0 ≤ (pos.length : Int) ∧ ((pos.length : Int) : Int) ≤ 1000000000000 then
   self (.l1 0 (List.replicate pos.length false) (List.replicate pos.length false))
  else none
def nodesW_m (c : ConsD) (q : ProbD) (pos : List Int) (ln : Nat) (lost : List Int) : Nat → nodesWPt → Option ((List Bool) × (List Bool) × Bool × (List Int))
  | 0, _ => none
  | n + 1, .l1 x32 o2 o3 => nodesW_l1 n (nodesW_m c q pos ln lost n) c q pos ln lost x32 o2 o3
  | n + 1, .l2 x2t2 x8 x90 x91 x92 o2 o3 => nodesW_l2 n (nodesW_m c q pos ln lost n) c q pos ln lost x2t2 x8 x90 x91 x92 o2 o3
  | n + 1, .l3 x2t2 x8 x101 x102 o1 o2 o3 => nodesW_l3 n (nodesW_m c q pos ln lost n) c q pos ln lost x2t2 x8 x101 x102 o1 o2 o3
def nodesW (n : Nat) (c : ConsD) (q : ProbD) (pos : List Int) (ln : Nat) (lost : List Int) : Option ((List Bool) × (List Bool) × Bool × (List Int)) := nodesW_l0 n (nodesW_m c q pos ln lost n) c q pos ln lost
/-- What the points stand for. -/
def nodesW_at (n : Nat) (B : Nat) (N : Yard Tryd.prog GG 2) (c : ConsD) (q : ProbD) (pos : List Int) (ln : Nat) (lost : List Int) (r : (List Bool) × (List Bool) × Bool × (List Int)) : nodesWPt → Prop
  | .l1 x32 o2 o3 => ∀ m0 : Nat, n ≤ m0 → TrK Tryd.prog GG Fence.wide (some B) 2 N (Fin Tryd.prog Tryd.f67 2 (.tup 3 (L1 [.bools r.1, .bools r.2.1, .bool r.2.2.1])) [some (.cells (consC c ++ probC q ++ [.ints pos, .msl 1 1 0 ln])), some (.ints r.2.2.2)]) (toN m0 (atNC (bodyC Tryd.f67) 0 [])) ⟨frm 120 [(0, .ref 0 0), (2, .msl 2 1 0 pos.length), (3, .msl 3 1 0 pos.length), (30, .ints c.cells), (31, .i (c.cells.length : Int)), (32, .i x32)], [some (.cells (consC c ++ probC q ++ [.ints pos, .msl 1 1 0 ln])), some (.ints lost), some (.bools o2), some (.bools o3)]⟩
  | .l2 x2t2 x8 x90 x91 x92 o2 o3 => ∀ m0 : Nat, n ≤ m0 → TrK Tryd.prog GG Fence.wide (some B) 2 N (Fin Tryd.prog Tryd.f67 2 (.tup 3 (L1 [.bools r.1, .bools r.2.1, .bool r.2.2.1])) [some (.cells (consC c ++ probC q ++ [.ints pos, .msl 1 1 0 ln])), some (.ints r.2.2.2)]) (toN m0 (atNC (bodyC Tryd.f67) 2 [])) ⟨frm 120 [(0, .ref 0 0), (2, .bools x2t2), (3, .msl 2 1 0 pos.length), (8, .msl 3 1 0 x8), (90, .ints x90), (91, .i x91), (92, .i x92)], [some (.cells (consC c ++ probC q ++ [.ints pos, .msl 1 1 0 ln])), some (.ints lost), some (.bools o2), some (.bools o3)]⟩
  | .l3 x2t2 x8 x101 x102 o1 o2 o3 => ∀ m0 : Nat, n ≤ m0 → TrK Tryd.prog GG Fence.wide (some B) 2 N (Fin Tryd.prog Tryd.f67 2 (.tup 3 (L1 [.bools r.1, .bools r.2.1, .bool r.2.2.1])) [some (.cells (consC c ++ probC q ++ [.ints pos, .msl 1 1 0 ln])), some (.ints r.2.2.2)]) (toN m0 (atNC (bodyC Tryd.f67) 4 [])) ⟨frm 120 [(0, .ref 0 0), (2, .bools x2t2), (3, .msl 2 1 0 pos.length), (8, .msl 3 1 0 x8), (101, .i x101), (102, .i x102)], [some (.cells (consC c ++ probC q ++ [.ints pos, .msl 1 1 0 ln])), some (.ints o1), some (.bools o2), some (.bools o3)]⟩
theorem nodesW_all (B : Nat) (N : Yard Tryd.prog GG 2) (c : ConsD) (q : ProbD) (pos : List Int) (ln : Nat) (lost : List Int) : ∀ (n : Nat) (pt : nodesWPt) (r : (List Bool) × (List Bool) × Bool × (List Int)), nodesW_m c q pos ln lost n pt = some r → nodesW_at n B N c q pos ln lost r pt := by
  intro n; induction n with
  | zero => intro _ _ h; cases h
  | succ n hself =>
   intro pt r h
   cases pt
   case l1 x32 o2 o3 =>
    have h : nodesW_l1 n (nodesW_m c q pos ln lost n) c q pos ln lost x32 o2 o3 = some r := h
    intro m0 hm0
    refine rd hm0 fun m0 hm0 => ?_
    unfold nodesW_l1 at h
    rcases bifSome h with ⟨c0, h⟩ | ⟨c0, h⟩
    · obtain ⟨⟨g0, g1, g2, g3, g4⟩, h⟩ := guardSome h
      exact gg (tg := [([(33, 2)], (tgt_nodesW_1 pos c x32 q ln lost o2 o3))]) sch_nodesW [0, 1, 2, 3] (H0.b 33 c0 |>.g g0 |>.g s_nodesW_5 |>.g g1 |>.g g1 |>.g g1 |>.g g2 |>.g g1 |>.g g3 |>.g (Eq.refl (tgt_nodesW_1 pos c x32 q ln lost o2 o3)) |>.w 70 g4) (hself _ _ h m0 hm0)
    · obtain ⟨g0, h⟩ := guardSome h
      obtain ⟨y1, hy1, h⟩ := bindSome h
      have p := H0.b 33 c0 |>.c (sb [.msl 3 1 0 pos.length, .bool true] (indexB_ok hy1) (hp_nodesW_2 c q pos ln lost o2 o3) ⟨Snap.bools rfl g0, Snap.plain (by kernel_rfl), trivial⟩)
      rcases bifSome h with ⟨c1, h⟩ | ⟨c1, h⟩
      · obtain ⟨g1, h⟩ := guardSome h
        cases h
        exact ez sch_nodesW [2, 3, 4] [0, 1, 2, 3] (p.b 74 c1) [2, 3] (H0.g g1 |>.g g0)
      · obtain ⟨g1, h⟩ := guardSome h
        obtain ⟨y2, hy2, h⟩ := bindSome h
        refine gz (stopAt 11 sch_nodesW) [0, 1, 2, 3, 4] (p.b 74 c1 |>.c (ES.snapNew (ds := [.msl 2 1 0 pos.length]) (cloneB_ok hy2) (hp_nodesW_2 c q pos ln lost o2 o3) ⟨Snap.bools rfl g1, trivial⟩ rfl)) [2] (H0.g g1) (atGC (bodyC Tryd.f67) 11 []) (frm 120 [(0, .ref 0 0), (2, .bools o2), (3, .msl 3 1 0 pos.length), (7, .i y1), (8, .msl 4 1 0 y2.length)]) (hp_nodesW_3 c q pos ln lost o3 y2) ?_
        obtain ⟨y3, hy3, h⟩ := bindSome h
        exact gg sch_nodesW [0, 1, 3, 4] (H0.c (fb (component_ok hy3) (hp_nodesW_3 c q pos ln lost o3 y2))) (en n (hself _ _ h n (Nat.le_refl _)))
   case l2 x2t2 x8 x90 x91 x92 o2 o3 =>
    have h : nodesW_l2 n (nodesW_m c q pos ln lost n) c q pos ln lost x2t2 x8 x90 x91 x92 o2 o3 = some r := h
    intro m0 hm0
    refine rd hm0 fun m0 hm0 => ?_
    unfold nodesW_l2 at h
    rcases bifSome h with ⟨c0, h⟩ | ⟨c0, h⟩
    · obtain ⟨⟨g0, g1, g2, g3⟩, h⟩ := guardSome h
      exact gg sch_nodesW [0, 1, 2, 3] (H0.b 93 c0 |>.g g0 |>.g g1 |>.g g2 |>.w 99 g3) (hself _ _ h m0 hm0)
    · exact gg sch_nodesW [0, 1, 2, 3] (H0.b 93 c0) (en n (hself _ _ h n (Nat.le_refl _)))
   case l3 x2t2 x8 x101 x102 o1 o2 o3 =>
    have h : nodesW_l3 n (nodesW_m c q pos ln lost n) c q pos ln lost x2t2 x8 x101 x102 o1 o2 o3 = some r := h
    intro m0 hm0
    refine rd hm0 fun m0 hm0 => ?_
    unfold nodesW_l3 at h
    rcases bifSome h with ⟨c0, h⟩ | ⟨c0, h⟩
    · obtain ⟨⟨g0, g1⟩, h⟩ := guardSome h
      have p := H0.b 103 c0 |>.g g0 |>.g g1
      rcases bifSome h with ⟨c1, h⟩ | ⟨c1, h⟩
      · obtain ⟨y1, hy1, h⟩ := bindSome h
        obtain ⟨g2, h⟩ := guardSome h
        exact gg sch_nodesW [0, 1, 2, 3] (p.b 108 c1 |>.c (em (loseW_ok hy1) [0, 1] [some (.cells (consC c ++ probC q ++ [.ints pos, .msl 1 1 0 ln])), some (.ints o1), some (.bools o2), some (.bools o3)]) |>.w 117 g2) (hself _ _ h m0 hm0)
      · obtain ⟨g2, h⟩ := guardSome h
        exact gg sch_nodesW [0, 1, 2, 3] (p.b 108 c1 |>.w 117 g2) (hself _ _ h m0 hm0)
    · obtain ⟨g0, h⟩ := guardSome h
      cases h
      exact ez sch_nodesW [2, 3, 4] [0, 1, 2] (H0.b 103 c0) [2] (H0.g g0)
theorem nodesW_ok {n : Nat} {c : ConsD} {q : ProbD} {pos : List Int} {ln : Nat} {lost : List Int} {r : (List Bool) × (List Bool) × Bool × (List Int)} (h : nodesW n c q pos ln lost = some r) : ES Tryd.prog GG 67 [.ref 0 0] [some (.cells (consC c ++ probC q ++ [.ints pos, .msl 1 1 0 ln])), some (.ints lost)] (.tup 3 (L1 [.bools r.1, .bools r.2.1, .bool r.2.2.1])) [some (.cells (consC c ++ probC q ++ [.ints pos, .msl 1 1 0 ln])), some (.ints r.2.2.2)] false := by
  refine ot Tryd.func67 fun B N => ?_
  have hself := nodesW_all B N c q pos ln lost n
  unfold nodesW at h
  unfold nodesW_l0 at h
  obtain ⟨g0, h⟩ := guardSome h
  exact gg (tg := [([], (tgt_nodesW_0 pos c q ln lost))]) sch_nodesW [0, 1, 2, 3] (H0.g s_nodesW_1 |>.g g0 |>.g g0 |>.g (Eq.refl (tgt_nodesW_0 pos c q ln lost)) |>.g g0 |>.g g0 |>.g (Eq.refl (tgt_nodesW_0 pos c q ln lost))) (en n (hself _ _ h n (Nat.le_refl _)))
inductive connWPt where
  | l1 (x3 x4 : List Bool) (x5 : Bool) (x16 x17 : Int) (o1 : List Int)
def connW_l1 (n : Nat) (self : connWPt → Option (Bool × (List Int))) (c : ConsD) (q : ProbD) (pos : List Int) (ln : Nat) (lost : List Int) (x3 x4 : List Bool) (x5 : Bool) (x16 x17 : Int) (o1 : List Int) : Option (Bool × (List Int)) :=
  bif (decide (x17 < x16)) then
   bif (!x5) then
    if R64 (x17 + 1) then
     self (.l1 x3 x4 x5 x16 (x17 + 1) o1)
    else none
   else
    if 0 ≤ x17 ∧ x17 < (x3.length : Int) then
     bif (!(x3.getD ((x17).toNat) false)) then
      if R64 (x17 + 1) then
       self (.l1 x3 x4 x5 x16 (x17 + 1) o1)
      else none
     else
      if 0 ≤ x17 ∧ x17 < (x4.length : Int) then
       bif (x4.getD ((x17).toNat) false) then
        if R64 (x17 + 1) then
         self (.l1 x3 x4 x5 x16 (x17 + 1) o1)
        else none
       else
        (splits n q.nbrs x3 x4 x17).bind fun y1 =>
         bif y1.1 then
          (onlyW n x17 c q pos ln o1).bind fun y2 =>
           if R64 (x17 + 1) then
            self (.l1 x3 x4 x5 x16 (x17 + 1) y2)
           else none
         else
          if R64 (x17 + 1) then
           self (.l1 x3 x4 x5 x16 (x17 + 1) o1)
          else none
      else none
    else none
  else
   some (true, o1)
def connW_l0 (n : Nat) (self : connWPt → Option (Bool × (List Int))) (c : ConsD) (q : ProbD) (pos : List Int) (ln : Nat) (lost : List Int) : Option (Bool × (List Int)) :=
  (nodesW n c q pos ln lost).bind fun y1 =>
   self (.l1 y1.1 y1.2.1 y1.2.2.1 (y1.1.length : Int) 0 y1.2.2.2)
def connW_m (c : ConsD) (q : ProbD) (pos : List Int) (ln : Nat) (lost : List Int) : Nat → connWPt → Option (Bool × (List Int))
  | 0, _ => none
  | n + 1, .l1 x3 x4 x5 x16 x17 o1 => connW_l1 n (connW_m c q pos ln lost n) c q pos ln lost x3 x4 x5 x16 x17 o1
def connW (n : Nat) (c : ConsD) (q : ProbD) (pos : List Int) (ln : Nat) (lost : List Int) : Option (Bool × (List Int)) := connW_l0 n (connW_m c q pos ln lost n) c q pos ln lost
/-- What the points stand for. -/
def connW_at (n : Nat) (B : Nat) (N : Yard Tryd.prog GG 2) (c : ConsD) (q : ProbD) (pos : List Int) (ln : Nat) (lost : List Int) (r : Bool × (List Int)) : connWPt → Prop
  | .l1 x3 x4 x5 x16 x17 o1 => ∀ m0 : Nat, n ≤ m0 → TrK Tryd.prog GG Fence.wide (some B) 2 N (Fin Tryd.prog Tryd.f47 2 (.bool r.1) [some (.cells (consC c ++ probC q ++ [.ints pos, .msl 1 1 0 ln])), some (.ints r.2)]) (toN m0 (atNC (bodyC Tryd.f47) 0 [])) ⟨frm 52 [(0, .ref 0 0), (3, .bools x3), (4, .bools x4), (5, .bool x5), (16, .i x16), (17, .i x17)], [some (.cells (consC c ++ probC q ++ [.ints pos, .msl 1 1 0 ln])), some (.ints o1)]⟩
theorem connW_all (B : Nat) (N : Yard Tryd.prog GG 2) (c : ConsD) (q : ProbD) (pos : List Int) (ln : Nat) (lost : List Int) : ∀ (n : Nat) (pt : connWPt) (r : Bool × (List Int)), connW_m c q pos ln lost n pt = some r → connW_at n B N c q pos ln lost r pt := by
  intro n; induction n with
  | zero => intro _ _ h; cases h
  | succ n hself =>
   intro pt r h
   cases pt
   case l1 x3 x4 x5 x16 x17 o1 =>
    have h : connW_l1 n (connW_m c q pos ln lost n) c q pos ln lost x3 x4 x5 x16 x17 o1 = some r := h
    intro m0 hm0
    refine rd hm0 fun m0 hm0 => ?_
    unfold connW_l1 at h
    rcases bifSome h with ⟨c0, h⟩ | ⟨c0, h⟩
    · have p := H0.b 18 c0
      rcases bifSome h with ⟨c1, h⟩ | ⟨c1, h⟩
      · obtain ⟨g0, h⟩ := guardSome h
        exact gg sch0 [0, 1] (p.b 21 c1 |>.w 51 g0) (hself _ _ h m0 hm0)
      · obtain ⟨g0, h⟩ := guardSome h
        have p := p.b 21 c1 |>.g g0
        rcases bifSome h with ⟨c2, h⟩ | ⟨c2, h⟩
        · obtain ⟨g1, h⟩ := guardSome h
          exact gg sch0 [0, 1] (p.b 27 c2 |>.w 51 g1) (hself _ _ h m0 hm0)
        · obtain ⟨g1, h⟩ := guardSome h
          have p := p.b 27 c2 |>.g g1
          rcases bifSome h with ⟨c3, h⟩ | ⟨c3, h⟩
          · obtain ⟨g2, h⟩ := guardSome h
            exact gg sch0 [0, 1] (p.b 33 c3 |>.w 51 g2) (hself _ _ h m0 hm0)
          · obtain ⟨y1, hy1, h⟩ := bindSome h
            have p := p.b 33 c3 |>.c (fb (splits_ok hy1) [some (.cells (consC c ++ probC q ++ [.ints pos, .msl 1 1 0 ln])), some (.ints o1)])
            rcases bifSome h with ⟨c4, h⟩ | ⟨c4, h⟩
            · obtain ⟨y2, hy2, h⟩ := bindSome h
              obtain ⟨g2, h⟩ := guardSome h
              exact gg sch0 [0, 1] (p.b 45 c4 |>.c (em (onlyW_ok hy2) [0, 1] [some (.cells (consC c ++ probC q ++ [.ints pos, .msl 1 1 0 ln])), some (.ints o1)]) |>.w 51 g2) (hself _ _ h m0 hm0)
            · obtain ⟨g2, h⟩ := guardSome h
              exact gg sch0 [0, 1] (p.b 45 c4 |>.w 51 g2) (hself _ _ h m0 hm0)
    · cases h
      exact ee sch0 [2] [0, 1] (H0.b 18 c0)
theorem connW_ok {n : Nat} {c : ConsD} {q : ProbD} {pos : List Int} {ln : Nat} {lost : List Int} {r : Bool × (List Int)} (h : connW n c q pos ln lost = some r) : ES Tryd.prog GG 47 [.ref 0 0] [some (.cells (consC c ++ probC q ++ [.ints pos, .msl 1 1 0 ln])), some (.ints lost)] (.bool r.1) [some (.cells (consC c ++ probC q ++ [.ints pos, .msl 1 1 0 ln])), some (.ints r.2)] false := by
  refine ot Tryd.func47 fun B N => ?_
  have hself := connW_all B N c q pos ln lost n
  unfold connW at h
  unfold connW_l0 at h
  obtain ⟨y1, hy1, h⟩ := bindSome h
  exact gg sch0 [0, 1] (H0.c (em (nodesW_ok hy1) [0, 1] [some (.cells (consC c ++ probC q ++ [.ints pos, .msl 1 1 0 ln])), some (.ints lost)])) (en n (hself _ _ h n (Nat.le_refl _)))
inductive loopWPt where
  | l1 (x3 x4 : List Bool) (x20 x21 : Int) (o1 : List Int)
  | l2 (x3 x4 : List Bool) (x8 x20 x21 : Int) (x36 : List Int) (x37 x38 : Int) (o1 : List Int)
  | l3 (x3 x4 : List Bool) (x7 : Nat) (x8 x20 x21 : Int) (x36 : List Int) (x37 x38 : Int) (o1 o2 : List Int)
  | l4 (x3 x4 : List Bool) (x7 : Nat) (x8 x20 x21 : Int) (x64 : Nat) (x65 x66 : Int) (o1 o2 : List Int)
def loopW_l1 (n : Nat) (self : loopWPt → Option (Bool × (List Int))) (c : ConsD) (q : ProbD) (pos : List Int) (ln : Nat) (lost : List Int) (x3 x4 : List Bool) (x20 x21 : Int) (o1 : List Int) : Option (Bool × (List Int)) :=
  bif (decide (x21 < x20)) then
   if 0 ≤ x21 ∧ x21 < (x4.length : Int) then
    bif (!(x4.getD ((x21).toNat) false)) then
     if R64 (x21 + 1) then
      self (.l1 x3 x4 x20 (x21 + 1) o1)
     else none
    else
     if 0 ≤ x21 ∧ x21 < (q.nbrs.length : Int) then
      self (.l2 x3 x4 0 x20 x21 (q.nbrs.getD ((x21).toNat) []) (((q.nbrs.getD ((x21).toNat) []).length : Nat) : Int) 0 o1)
     else none
   else none
  else
   some (true, o1)
def loopW_l2 (n : Nat) (self : loopWPt → Option (Bool × (List Int))) (c : ConsD) (q : ProbD) (pos : List Int) (ln : Nat) (lost : List Int) (x3 x4 : List Bool) (x8 x20 x21 : Int) (x36 : List Int) (x37 x38 : Int) (o1 : List Int) : Option (Bool × (List Int)) :=
  bif (decide (x38 < x37)) then
   if (0 ≤ x38 ∧ x38 < (x36.length : Int)) ∧ (0 ≤ (x36.getD ((x38).toNat) 0) ∧ (x36.getD ((x38).toNat) 0) < (x3.length : Int)) then
    bif (x3.getD ((x36.getD ((x38).toNat) 0).toNat) false) then
     if ((0 = 0 ∧ 1 = ([x36.getD ((x38).toNat) 0] : List Int).length) ∧ 0 < ([x36.getD ((x38).toNat) 0] : List Int).length ∧ ([x36.getD ((x38).toNat) 0] : List Int).length ≤ LIM) ∧ (0 ≤ (x36.getD ((x38).toNat) 0) ∧ (x36.getD ((x38).toNat) 0) < (x4.length : Int)) then
      bif (x4.getD ((x36.getD ((x38).toNat) 0).toNat) false) then
       if R64 (x8 + 1) ∧ R64 (x38 + 1) then
        self (.l3 x3 x4 (([x36.getD ((x38).toNat) 0] : List Int).length) (x8 + 1) x20 x21 x36 x37 (x38 + 1) o1 ([x36.getD ((x38).toNat) 0] : List Int))
       else none
      else
       if R64 (x38 + 1) then
        self (.l3 x3 x4 (([x36.getD ((x38).toNat) 0] : List Int).length) x8 x20 x21 x36 x37 (x38 + 1) o1 ([x36.getD ((x38).toNat) 0] : List Int))
       else none
     else none
    else
     if 0 ≤ (x36.getD ((x38).toNat) 0) ∧ (x36.getD ((x38).toNat) 0) < (x4.length : Int) then
      bif (x4.getD ((x36.getD ((x38).toNat) 0).toNat) false) then
       if R64 (x8 + 1) ∧ R64 (x38 + 1) then
        self (.l2 x3 x4 (x8 + 1) x20 x21 x36 x37 (x38 + 1) o1)
       else none
      else
       if R64 (x38 + 1) then
        self (.l2 x3 x4 x8 x20 x21 x36 x37 (x38 + 1) o1)
       else none
     else none
   else none
  else
   some (false, o1)
def loopW_l3 (n : Nat) (self : loopWPt → Option (Bool × (List Int))) (c : ConsD) (q : ProbD) (pos : List Int) (ln : Nat) (lost : List Int) (x3 x4 : List Bool) (x7 : Nat) (x8 x20 x21 : Int) (x36 : List Int) (x37 x38 : Int) (o1 o2 : List Int) : Option (Bool × (List Int)) :=
  bif (decide (x38 < x37)) then
   if (0 ≤ x38 ∧ x38 < (x36.length : Int)) ∧ (0 ≤ (x36.getD ((x38).toNat) 0) ∧ (x36.getD ((x38).toNat) 0) < (x3.length : Int)) then
    bif (x3.getD ((x36.getD ((x38).toNat) 0).toNat) false) then
     if ((0 = 0 ∧ 1 = ([x36.getD ((x38).toNat) 0] : List Int).length) ∧ (0 = 0 ∧ x7 = o2.length) ∧ o2.length + ([x36.getD ((x38).toNat) 0] : List Int).length ≤ LIM) ∧ (0 ≤ (x36.getD ((x38).toNat) 0) ∧ (x36.getD ((x38).toNat) 0) < (x4.length : Int)) then
      bif (x4.getD ((x36.getD ((x38).toNat) 0).toNat) false) then
       if R64 (x8 + 1) ∧ R64 (x38 + 1) then
        self (.l3 x3 x4 (o2.length + ([x36.getD ((x38).toNat) 0] : List Int).length) (x8 + 1) x20 x21 x36 x37 (x38 + 1) o1 (o2 ++ ([x36.getD ((x38).toNat) 0] : List Int)))
       else none
      else
       if R64 (x38 + 1) then
        self (.l3 x3 x4 (o2.length + ([x36.getD ((x38).toNat) 0] : List Int).length) x8 x20 x21 x36 x37 (x38 + 1) o1 (o2 ++ ([x36.getD ((x38).toNat) 0] : List Int)))
       else none
     else none
    else
     if 0 ≤ (x36.getD ((x38).toNat) 0) ∧ (x36.getD ((x38).toNat) 0) < (x4.length : Int) then
      bif (x4.getD ((x36.getD ((x38).toNat) 0).toNat) false) then
       if R64 (x8 + 1) ∧ R64 (x38 + 1) then
        self (.l3 x3 x4 x7 (x8 + 1) x20 x21 x36 x37 (x38 + 1) o1 o2)
       else none
      else
       if R64 (x38 + 1) then
        self (.l3 x3 x4 x7 x8 x20 x21 x36 x37 (x38 + 1) o1 o2)
       else none
     else none
   else none
  else
   bif (decide ((x7 : Int) < 2)) then
    some (false, o1)
   else
    bif (decide (x8 > 2)) then
     some (false, o1)
    else
     self (.l4 x3 x4 x7 x8 x20 x21 x7 (x7 : Int) 0 o1 o2)
def loopW_l4 (n : Nat) (self : loopWPt → Option (Bool × (List Int))) (c : ConsD) (q : ProbD) (pos : List Int) (ln : Nat) (lost : List Int) (x3 x4 : List Bool) (x7 : Nat) (x8 x20 x21 : Int) (x64 : Nat) (x65 x66 : Int) (o1 o2 : List Int) : Option (Bool × (List Int)) :=
  bif (decide (x66 < x65)) then
   if (0 ≤ x66 ∧ x66 < (x64 : Int)) ∧ 0 + ((x66).toNat) < o2.length then
    bif ((x7 : Int) == 2) then
     (onlyW n (o2.getD (0 + ((x66).toNat)) 0) c q pos ln o1).bind fun y1 =>
      bif (x8 == 2) then
       if 0 ≤ (o2.getD (0 + ((x66).toNat)) 0) ∧ (o2.getD (0 + ((x66).toNat)) 0) < (x4.length : Int) then
        bif (!(x4.getD ((o2.getD (0 + ((x66).toNat)) 0).toNat) false)) then
         (loseW n (o2.getD (0 + ((x66).toNat)) 0) c.set c q pos ln y1).bind fun y2 =>
          if R64 (x66 + 1) then
           self (.l4 x3 x4 x7 x8 x20 x21 x64 x65 (x66 + 1) y2 o2)
          else none
        else
         if R64 (x66 + 1) then
          self (.l4 x3 x4 x7 x8 x20 x21 x64 x65 (x66 + 1) y1 o2)
         else none
       else none
      else
       if R64 (x66 + 1) then
        self (.l4 x3 x4 x7 x8 x20 x21 x64 x65 (x66 + 1) y1 o2)
       else none
    else
     bif (x8 == 2) then
      if 0 ≤ (o2.getD (0 + ((x66).toNat)) 0) ∧ (o2.getD (0 + ((x66).toNat)) 0) < (x4.length : Int) then
       bif (!(x4.getD ((o2.getD (0 + ((x66).toNat)) 0).toNat) false)) then
        (loseW n (o2.getD (0 + ((x66).toNat)) 0) c.set c q pos ln o1).bind fun y1 =>
         if R64 (x66 + 1) then
          self (.l4 x3 x4 x7 x8 x20 x21 x64 x65 (x66 + 1) y1 o2)
         else none
       else
        if R64 (x66 + 1) then
         self (.l4 x3 x4 x7 x8 x20 x21 x64 x65 (x66 + 1) o1 o2)
        else none
      else none
     else
      if R64 (x66 + 1) then
       self (.l4 x3 x4 x7 x8 x20 x21 x64 x65 (x66 + 1) o1 o2)
      else none
   else none
  else
   if R64 (x21 + 1) then
    self (.l1 x3 x4 x20 (x21 + 1) o1)
   else none
def loopW_l0 (n : Nat) (self : loopWPt → Option (Bool × (List Int))) (c : ConsD) (q : ProbD) (pos : List Int) (ln : Nat) (lost : List Int) : Option (Bool × (List Int)) :=
  (nodesW n c q pos ln lost).bind fun y1 =>
   self (.l1 y1.1 y1.2.1 (y1.2.1.length : Int) 0 y1.2.2.2)
def loopW_m (c : ConsD) (q : ProbD) (pos : List Int) (ln : Nat) (lost : List Int) : Nat → loopWPt → Option (Bool × (List Int))
  | 0, _ => none
  | n + 1, .l1 x3 x4 x20 x21 o1 => loopW_l1 n (loopW_m c q pos ln lost n) c q pos ln lost x3 x4 x20 x21 o1
  | n + 1, .l2 x3 x4 x8 x20 x21 x36 x37 x38 o1 => loopW_l2 n (loopW_m c q pos ln lost n) c q pos ln lost x3 x4 x8 x20 x21 x36 x37 x38 o1
  | n + 1, .l3 x3 x4 x7 x8 x20 x21 x36 x37 x38 o1 o2 => loopW_l3 n (loopW_m c q pos ln lost n) c q pos ln lost x3 x4 x7 x8 x20 x21 x36 x37 x38 o1 o2
  | n + 1, .l4 x3 x4 x7 x8 x20 x21 x64 x65 x66 o1 o2 => loopW_l4 n (loopW_m c q pos ln lost n) c q pos ln lost x3 x4 x7 x8 x20 x21 x64 x65 x66 o1 o2
def loopW (n : Nat) (c : ConsD) (q : ProbD) (pos : List Int) (ln : Nat) (lost : List Int) : Option (Bool × (List Int)) := loopW_l0 n (loopW_m c q pos ln lost n) c q pos ln lost
/-- What the points stand for. -/
def loopW_at (n : Nat) (B : Nat) (N : Yard Tryd.prog GG 2) (c : ConsD) (q : ProbD) (pos : List Int) (ln : Nat) (lost : List Int) (r : Bool × (List Int)) : loopWPt → Prop
  | .l1 x3 x4 x20 x21 o1 => ∀ m0 : Nat, n ≤ m0 → TrK Tryd.prog GG Fence.wide (some B) 2 N (Fin Tryd.prog Tryd.f48 2 (.bool r.1) [some (.cells (consC c ++ probC q ++ [.ints pos, .msl 1 1 0 ln])), some (.ints r.2)]) (toN m0 (atNC (bodyC Tryd.f48) 0 [])) ⟨frm 95 [(0, .ref 0 0), (3, .bools x3), (4, .bools x4), (20, .i x20), (21, .i x21)], [some (.cells (consC c ++ probC q ++ [.ints pos, .msl 1 1 0 ln])), some (.ints o1)]⟩
  | .l2 x3 x4 x8 x20 x21 x36 x37 x38 o1 => ∀ m0 m1 : Nat, n ≤ m0 → n ≤ m1 → TrK Tryd.prog GG Fence.wide (some B) 2 N (Fin Tryd.prog Tryd.f48 2 (.bool r.1) [some (.cells (consC c ++ probC q ++ [.ints pos, .msl 1 1 0 ln])), some (.ints r.2)]) (toN m1 (atNC (bodyC Tryd.f48) 2 [m0])) ⟨frm 95 [(0, .ref 0 0), (3, .bools x3), (4, .bools x4), (7, .nils), (8, .i x8), (20, .i x20), (21, .i x21), (36, .ints x36), (37, .i x37), (38, .i x38)], [some (.cells (consC c ++ probC q ++ [.ints pos, .msl 1 1 0 ln])), some (.ints o1)]⟩
  | .l3 x3 x4 x7 x8 x20 x21 x36 x37 x38 o1 o2 => ∀ m0 m1 : Nat, n ≤ m0 → n ≤ m1 → TrK Tryd.prog GG Fence.wide (some B) 2 N (Fin Tryd.prog Tryd.f48 2 (.bool r.1) [some (.cells (consC c ++ probC q ++ [.ints pos, .msl 1 1 0 ln])), some (.ints r.2)]) (toN m1 (atNC (bodyC Tryd.f48) 2 [m0])) ⟨frm 95 [(0, .ref 0 0), (3, .bools x3), (4, .bools x4), (7, .msl 2 1 0 x7), (8, .i x8), (20, .i x20), (21, .i x21), (36, .ints x36), (37, .i x37), (38, .i x38)], [some (.cells (consC c ++ probC q ++ [.ints pos, .msl 1 1 0 ln])), some (.ints o1), some (.ints o2)]⟩
  | .l4 x3 x4 x7 x8 x20 x21 x64 x65 x66 o1 o2 => ∀ m0 m1 : Nat, n ≤ m0 → n ≤ m1 → TrK Tryd.prog GG Fence.wide (some B) 2 N (Fin Tryd.prog Tryd.f48 2 (.bool r.1) [some (.cells (consC c ++ probC q ++ [.ints pos, .msl 1 1 0 ln])), some (.ints r.2)]) (toN m1 (atNC (bodyC Tryd.f48) 4 [m0])) ⟨frm 95 [(0, .ref 0 0), (3, .bools x3), (4, .bools x4), (7, .msl 2 1 0 x7), (8, .i x8), (20, .i x20), (21, .i x21), (64, .msl 2 1 0 x64), (65, .i x65), (66, .i x66)], [some (.cells (consC c ++ probC q ++ [.ints pos, .msl 1 1 0 ln])), some (.ints o1), some (.ints o2)]⟩
theorem loopW_all (B : Nat) (N : Yard Tryd.prog GG 2) (c : ConsD) (q : ProbD) (pos : List Int) (ln : Nat) (lost : List Int) : ∀ (n : Nat) (pt : loopWPt) (r : Bool × (List Int)), loopW_m c q pos ln lost n pt = some r → loopW_at n B N c q pos ln lost r pt := by
  intro n; induction n with
  | zero => intro _ _ h; cases h
  | succ n hself =>
   intro pt r h
   cases pt
   case l1 x3 x4 x20 x21 o1 =>
    have h : loopW_l1 n (loopW_m c q pos ln lost n) c q pos ln lost x3 x4 x20 x21 o1 = some r := h
    intro m0 hm0
    refine rd hm0 fun m0 hm0 => ?_
    unfold loopW_l1 at h
    rcases bifSome h with ⟨c0, h⟩ | ⟨c0, h⟩
    · obtain ⟨g0, h⟩ := guardSome h
      have p := H0.b 22 c0 |>.g g0
      rcases bifSome h with ⟨c1, h⟩ | ⟨c1, h⟩
      · obtain ⟨g1, h⟩ := guardSome h
        exact gg sch0 [0, 1] (p.b 28 c1 |>.w 94 g1) (hself _ _ h m0 hm0)
      · obtain ⟨g1, h⟩ := guardSome h
        exact gg sch0 [0, 1] (p.b 28 c1 |>.g g1) (en n (hself _ _ h m0 n hm0 (Nat.le_refl _)))
    · cases h
      exact ee sch0 [2] [0, 1] (H0.b 22 c0)
   case l2 x3 x4 x8 x20 x21 x36 x37 x38 o1 =>
    have h : loopW_l2 n (loopW_m c q pos ln lost n) c q pos ln lost x3 x4 x8 x20 x21 x36 x37 x38 o1 = some r := h
    intro m0 m1 hm0 hm1
    have hm0 := Nat.le_of_succ_le hm0
    refine rd hm1 fun m1 hm1 => ?_
    unfold loopW_l2 at h
    rcases bifSome h with ⟨c0, h⟩ | ⟨c0, h⟩
    · obtain ⟨⟨g0, g1⟩, h⟩ := guardSome h
      have p := H0.b 39 c0 |>.g g0 |>.g g1
      rcases bifSome h with ⟨c1, h⟩ | ⟨c1, h⟩
      · obtain ⟨⟨g2, g3⟩, h⟩ := guardSome h
        have p := p.b 45 c1 |>.g g2 |>.g g3
        rcases bifSome h with ⟨c2, h⟩ | ⟨c2, h⟩
        · obtain ⟨⟨g4, g5⟩, h⟩ := guardSome h
          exact gg sch0 [0, 1, 3] (p.b 53 c2 |>.w 55 g4 |>.w 56 g5) (hself _ _ h m0 m1 hm0 hm1)
        · obtain ⟨g4, h⟩ := guardSome h
          exact gg sch0 [0, 1, 3] (p.b 53 c2 |>.w 56 g4) (hself _ _ h m0 m1 hm0 hm1)
      · obtain ⟨g2, h⟩ := guardSome h
        have p := p.b 45 c1 |>.g g2
        rcases bifSome h with ⟨c2, h⟩ | ⟨c2, h⟩
        · obtain ⟨⟨g3, g4⟩, h⟩ := guardSome h
          exact gg sch0 [0, 1] (p.b 53 c2 |>.w 55 g3 |>.w 56 g4) (hself _ _ h m0 m1 hm0 hm1)
        · obtain ⟨g3, h⟩ := guardSome h
          exact gg sch0 [0, 1] (p.b 53 c2 |>.w 56 g3) (hself _ _ h m0 m1 hm0 hm1)
    · cases h
      exact ee sch0 [2] [0, 1] (H0.b 39 c0)
   case l3 x3 x4 x7 x8 x20 x21 x36 x37 x38 o1 o2 =>
    have h : loopW_l3 n (loopW_m c q pos ln lost n) c q pos ln lost x3 x4 x7 x8 x20 x21 x36 x37 x38 o1 o2 = some r := h
    intro m0 m1 hm0 hm1
    have hm0 := Nat.le_of_succ_le hm0
    refine rd hm1 fun m1 hm1 => ?_
    unfold loopW_l3 at h
    rcases bifSome h with ⟨c0, h⟩ | ⟨c0, h⟩
    · obtain ⟨⟨g0, g1⟩, h⟩ := guardSome h
      have p := H0.b 39 c0 |>.g g0 |>.g g1
      rcases bifSome h with ⟨c1, h⟩ | ⟨c1, h⟩
      · obtain ⟨⟨g2, g3⟩, h⟩ := guardSome h
        have p := p.b 45 c1 |>.g g2 |>.g g3
        rcases bifSome h with ⟨c2, h⟩ | ⟨c2, h⟩
        · obtain ⟨⟨g4, g5⟩, h⟩ := guardSome h
          exact gg sch0 [0, 1, 4] (p.b 53 c2 |>.w 55 g4 |>.w 56 g5) (hself _ _ h m0 m1 hm0 hm1)
        · obtain ⟨g4, h⟩ := guardSome h
          exact gg sch0 [0, 1, 4] (p.b 53 c2 |>.w 56 g4) (hself _ _ h m0 m1 hm0 hm1)
      · obtain ⟨g2, h⟩ := guardSome h
        have p := p.b 45 c1 |>.g g2
        rcases bifSome h with ⟨c2, h⟩ | ⟨c2, h⟩
        · obtain ⟨⟨g3, g4⟩, h⟩ := guardSome h
          exact gg sch0 [0, 1, 2] (p.b 53 c2 |>.w 55 g3 |>.w 56 g4) (hself _ _ h m0 m1 hm0 hm1)
        · obtain ⟨g3, h⟩ := guardSome h
          exact gg sch0 [0, 1, 2] (p.b 53 c2 |>.w 56 g3) (hself _ _ h m0 m1 hm0 hm1)
    · have p := H0.b 39 c0
      rcases bifSome h with ⟨c1, h⟩ | ⟨c1, h⟩
      · cases h
        exact ee sch0 [2] [0, 1] (p.b 59 c1)
      · have p := p.b 59 c1
        rcases bifSome h with ⟨c2, h⟩ | ⟨c2, h⟩
        · cases h
          exact ee sch0 [2] [0, 1] (p.b 62 c2)
        · exact gg sch0 [0, 1, 2] (p.b 62 c2) (en n (hself _ _ h m0 n hm0 (Nat.le_refl _)))
   case l4 x3 x4 x7 x8 x20 x21 x64 x65 x66 o1 o2 =>
    have h : loopW_l4 n (loopW_m c q pos ln lost n) c q pos ln lost x3 x4 x7 x8 x20 x21 x64 x65 x66 o1 o2 = some r := h
    intro m0 m1 hm0 hm1
    have hm0 := Nat.le_of_succ_le hm0
    refine rd hm1 fun m1 hm1 => ?_
    unfold loopW_l4 at h
    rcases bifSome h with ⟨c0, h⟩ | ⟨c0, h⟩
    · obtain ⟨⟨g0, g1⟩, h⟩ := guardSome h
      have p := H0.b 67 c0 |>.g g0 |>.g g1
      rcases bifSome h with ⟨c1, h⟩ | ⟨c1, h⟩
      · obtain ⟨y1, hy1, h⟩ := bindSome h
        have p := p.b 72 c1 |>.c (em (onlyW_ok hy1) [0, 1] [some (.cells (consC c ++ probC q ++ [.ints pos, .msl 1 1 0 ln])), some (.ints o1), some (.ints o2)])
        rcases bifSome h with ⟨c2, h⟩ | ⟨c2, h⟩
        · obtain ⟨g2, h⟩ := guardSome h
          have p := p.b 77 c2 |>.g g2
          rcases bifSome h with ⟨c3, h⟩ | ⟨c3, h⟩
          · obtain ⟨y2, hy2, h⟩ := bindSome h
            obtain ⟨g3, h⟩ := guardSome h
            exact gg sch0 [0, 1, 2] (p.b 83 c3 |>.c (em (loseW_ok hy2) [0, 1] [some (.cells (consC c ++ probC q ++ [.ints pos, .msl 1 1 0 ln])), some (.ints y1), some (.ints o2)]) |>.w 93 g3) (hself _ _ h m0 m1 hm0 hm1)
          · obtain ⟨g3, h⟩ := guardSome h
            exact gg sch0 [0, 1, 2] (p.b 83 c3 |>.w 93 g3) (hself _ _ h m0 m1 hm0 hm1)
        · obtain ⟨g2, h⟩ := guardSome h
          exact gg sch0 [0, 1, 2] (p.b 77 c2 |>.w 93 g2) (hself _ _ h m0 m1 hm0 hm1)
      · have p := p.b 72 c1
        rcases bifSome h with ⟨c2, h⟩ | ⟨c2, h⟩
        · obtain ⟨g2, h⟩ := guardSome h
          have p := p.b 77 c2 |>.g g2
          rcases bifSome h with ⟨c3, h⟩ | ⟨c3, h⟩
          · obtain ⟨y1, hy1, h⟩ := bindSome h
            obtain ⟨g3, h⟩ := guardSome h
            exact gg sch0 [0, 1, 2] (p.b 83 c3 |>.c (em (loseW_ok hy1) [0, 1] [some (.cells (consC c ++ probC q ++ [.ints pos, .msl 1 1 0 ln])), some (.ints o1), some (.ints o2)]) |>.w 93 g3) (hself _ _ h m0 m1 hm0 hm1)
          · obtain ⟨g3, h⟩ := guardSome h
            exact gg sch0 [0, 1, 2] (p.b 83 c3 |>.w 93 g3) (hself _ _ h m0 m1 hm0 hm1)
        · obtain ⟨g2, h⟩ := guardSome h
          exact gg sch0 [0, 1, 2] (p.b 77 c2 |>.w 93 g2) (hself _ _ h m0 m1 hm0 hm1)
    · obtain ⟨g0, h⟩ := guardSome h
      exact gg sch0 [0, 1] (H0.b 67 c0 |>.w 94 g0) (hself _ _ h m0 hm0)
theorem loopW_ok {n : Nat} {c : ConsD} {q : ProbD} {pos : List Int} {ln : Nat} {lost : List Int} {r : Bool × (List Int)} (h : loopW n c q pos ln lost = some r) : ES Tryd.prog GG 48 [.ref 0 0] [some (.cells (consC c ++ probC q ++ [.ints pos, .msl 1 1 0 ln])), some (.ints lost)] (.bool r.1) [some (.cells (consC c ++ probC q ++ [.ints pos, .msl 1 1 0 ln])), some (.ints r.2)] false := by
  refine ot Tryd.func48 fun B N => ?_
  have hself := loopW_all B N c q pos ln lost n
  unfold loopW at h
  unfold loopW_l0 at h
  obtain ⟨y1, hy1, h⟩ := bindSome h
  exact gg sch0 [0, 1] (H0.c (em (nodesW_ok hy1) [0, 1] [some (.cells (consC c ++ probC q ++ [.ints pos, .msl 1 1 0 ln])), some (.ints lost)])) (en n (hself _ _ h n (Nat.le_refl _)))
end Go.Proofs.YtekkngkphejfcaaDoor
namespace Go.Proofs.YtekkngkphejfcaaDoor
open Go.RowKit
set_option maxRecDepth 100000
set_option maxHeartbeats 40000000
def t_nextF_2 : ST := .rd 0 (.rd 1 (.rd 2 (.rd 3 (.rd 4 (.rd 5 (.rd 6 (.rd 7 (.rd 8 (.rd 9 (.rd 10 (.rd 11 (.rd 12 (.rd 13 (.rd 14 (.rd 15 (.rd 16 (.rd 17 (.rd 18 (.rd 19 (.rd 20 (.rd 21 (.rd 22 (.rd 23 (.rd 24 (.rd 25 (.rd 26 (.rd 27 (.rd 28 (.ef 29 (.rd 30 (.fin [] [5, 6])) (.no))))))))))))))))))))))))))))))
theorem s_nextF_2 : TOk (regF Tryd.f62 2) [29] t_nextF_2 := by unfold TOk; kernel_rfl
def t_nextF_5 : ST := .rd 0 (.rd 1 (.rd 2 (.rd 3 (.rd 4 (.rd 5 (.rd 6 (.rd 7 (.rd 8 (.rd 9 (.rd 10 (.rd 11 (.rd 12 (.rd 13 (.rd 14 (.rd 15 (.ef 16 (.rd 17 (.fin [] [5, 6])) (.no)))))))))))))))))
theorem s_nextF_5 : TOk (regF Tryd.f62 5) [16] t_nextF_5 := by unfold TOk; kernel_rfl
def sch_nextF : Sch := fun i => match i with
  | 2 => .tre [29] t_nextF_2
  | 5 => .tre [16] t_nextF_5
  | _ => .no
def tgt_nextF_0 (s_ : Int × Int) (c : ConsD) (q : ProbD) (pos : List Int) (ln : Nat) (lost : List Int) : St := ⟨(frm 59 [(5, .ref 4 0), (6, .bool (decide (s_.2 < (c.runs.getD ((s_.1).toNat) 0))))]), ([some (.cells [.ref 1 0]), some (.cells (consC c ++ probC q ++ [.ints pos, .msl 2 1 0 ln])), some (.ints lost), some (.cells [.i s_.1, .i s_.2]), some (.cells [.i s_.1, .i (s_.2 + 1)])] : DH)⟩
def tgt_nextF_1 (c : ConsD) (q : ProbD) (pos : List Int) (ln : Nat) (lost : List Int) (s_ : Int × Int) : St := ⟨(frm 59 [(5, .ref 4 0), (6, .bool false)]), ([some (.cells [.ref 1 0]), some (.cells (consC c ++ probC q ++ [.ints pos, .msl 2 1 0 ln])), some (.ints lost), some (.cells [.i s_.1, .i s_.2]), some (.cells [.i s_.1, .i (s_.2 + 1)])] : DH)⟩
def tgt_nextF_2 (s_ : Int × Int) (c : ConsD) (q : ProbD) (pos : List Int) (ln : Nat) (lost : List Int) : St := ⟨(frm 59 [(5, .ref 4 0), (6, .bool (s_.2 == (c.runs.getD ((s_.1).toNat) 0)))]), ([some (.cells [.ref 1 0]), some (.cells (consC c ++ probC q ++ [.ints pos, .msl 2 1 0 ln])), some (.ints lost), some (.cells [.i s_.1, .i s_.2]), some (.cells [.i (s_.1 + 1), .i 0])] : DH)⟩
def nextF_l0 (n : Nat) (s_ : Int × Int) (in_ : Bool) (c : ConsD) (q : ProbD) (pos : List Int) (ln : Nat) (lost : List Int) : Option ((Int × Int) × Bool × (List Int)) :=
  bif in_ then
   if R64 (s_.2 + 1) then
    bif (decide (s_.1 < (c.runs.length : Int))) then
     if 0 ≤ s_.1 ∧ s_.1 < (c.runs.length : Int) then
      some ((s_.1, (s_.2 + 1)), (decide (s_.2 < (c.runs.getD ((s_.1).toNat) 0))), lost)
     else none
    else
     some ((s_.1, (s_.2 + 1)), false, lost)
   else none
  else
   bif (s_.2 == 0) then
    some ((s_.1, s_.2), true, lost)
   else
    if R64 (s_.1 + 1) ∧ (0 ≤ s_.1 ∧ s_.1 < (c.runs.length : Int)) then
     some (((s_.1 + 1), 0), (s_.2 == (c.runs.getD ((s_.1).toNat) 0)), lost)
    else none
def nextF (n : Nat) (s_ : Int × Int) (in_ : Bool) (c : ConsD) (q : ProbD) (pos : List Int) (ln : Nat) (lost : List Int) : Option ((Int × Int) × Bool × (List Int)) := nextF_l0 n s_ in_ c q pos ln lost
theorem nextF_ok {n : Nat} {s_ : Int × Int} {in_ : Bool} {c : ConsD} {q : ProbD} {pos : List Int} {ln : Nat} {lost : List Int} {r : (Int × Int) × Bool × (List Int)} (h : nextF n s_ in_ c q pos ln lost = some r) : ES Tryd.prog GG 62 [.agg 2 (L1 [.i s_.1, .i s_.2]), .bool in_, .ref 0 0] [some (.cells [.ref 1 0]), some (.cells (consC c ++ probC q ++ [.ints pos, .msl 2 1 0 ln])), some (.ints lost)] (.tup 2 (L1 [.agg 2 (L1 [.i r.1.1, .i r.1.2]), .bool r.2.1])) [some (.cells [.ref 1 0]), some (.cells (consC c ++ probC q ++ [.ints pos, .msl 2 1 0 ln])), some (.ints r.2.2)] false := by
  refine ot Tryd.func62 fun B N => ?_
  unfold nextF at h
  unfold nextF_l0 at h
  rcases bifSome h with ⟨c0, h⟩ | ⟨c0, h⟩
  · obtain ⟨g0, h⟩ := guardSome h
    have p := H0.b 8 c0 |>.g s_nextF_2 |>.w 13 g0
    rcases bifSome h with ⟨c1, h⟩ | ⟨c1, h⟩
    · obtain ⟨g1, h⟩ := guardSome h
      cases h
      exact ee (tg := [([(29, 4)], (tgt_nextF_0 s_ c q pos ln lost))]) sch_nextF [5, 6] [0, 1, 2, 4] (p.b 23 c1 |>.g g1 |>.t |>.g (Eq.refl (tgt_nextF_0 s_ c q pos ln lost)))
    · cases h
      exact ee (tg := [([(29, 4)], (tgt_nextF_1 c q pos ln lost s_))]) sch_nextF [5, 6] [0, 1, 2, 4] (p.b 23 c1 |>.t |>.g (Eq.refl (tgt_nextF_1 c q pos ln lost s_)))
  · have p := H0.b 8 c0
    rcases bifSome h with ⟨c1, h⟩ | ⟨c1, h⟩
    · cases h
      exact ee sch_nextF [5, 6] [0, 1, 2, 4] (p.b 41 c1 |>.t)
    · obtain ⟨⟨g0, g1⟩, h⟩ := guardSome h
      cases h
      exact ee (tg := [([(16, 4)], (tgt_nextF_2 s_ c q pos ln lost))]) sch_nextF [5, 6] [0, 1, 2, 4] (p.b 41 c1 |>.g s_nextF_5 |>.w 45 g0 |>.g g1 |>.t |>.g (Eq.refl (tgt_nextF_2 s_ c q pos ln lost)))
theorem s_kindF_2 : SOk (regF Tryd.f63 2) [] (List.range 22) [] := by unfold SOk; kernel_rfl
theorem s_kindF_3 : SOk (regF Tryd.f63 3) [] (List.range 22) [] := by unfold SOk; kernel_rfl
def sch_kindF : Sch := fun i => match i with
  | 2 => .ord [] (List.range 22) []
  | 3 => .ord [] (List.range 22) []
  | _ => .no
def kindF_l0 (n : Nat) (i_ : Int) (in_ : Bool) (c : ConsD) (q : ProbD) (pos : List Int) (ln : Nat) (lost : List Int) : Option (Bool × (List Int)) :=
  bif in_ then
   if (0 ≤ i_ ∧ i_ < (c.cells.length : Int)) ∧ (0 ≤ (c.cells.getD ((i_).toNat) 0) ∧ (c.cells.getD ((i_).toNat) 0) < (pos.length : Int)) then
    some (((bits .and .i64 (pos.getD ((c.cells.getD ((i_).toNat) 0).toNat) 0) c.set) != 0), lost)
   else none
  else
   if (0 ≤ i_ ∧ i_ < (c.cells.length : Int)) ∧ (0 ≤ (c.cells.getD ((i_).toNat) 0) ∧ (c.cells.getD ((i_).toNat) 0) < (pos.length : Int)) then
    some (((bits .andNot .i64 (pos.getD ((c.cells.getD ((i_).toNat) 0).toNat) 0) c.set) != 0), lost)
   else none
def kindF (n : Nat) (i_ : Int) (in_ : Bool) (c : ConsD) (q : ProbD) (pos : List Int) (ln : Nat) (lost : List Int) : Option (Bool × (List Int)) := kindF_l0 n i_ in_ c q pos ln lost
theorem kindF_ok {n : Nat} {i_ : Int} {in_ : Bool} {c : ConsD} {q : ProbD} {pos : List Int} {ln : Nat} {lost : List Int} {r : Bool × (List Int)} (h : kindF n i_ in_ c q pos ln lost = some r) : ES Tryd.prog GG 63 [.i i_, .bool in_, .ref 0 0] [some (.cells [.ref 1 0]), some (.cells (consC c ++ probC q ++ [.ints pos, .msl 2 1 0 ln])), some (.ints lost)] (.bool r.1) [some (.cells [.ref 1 0]), some (.cells (consC c ++ probC q ++ [.ints pos, .msl 2 1 0 ln])), some (.ints r.2)] false := by
  refine ot Tryd.func63 fun B N => ?_
  unfold kindF at h
  unfold kindF_l0 at h
  rcases bifSome h with ⟨c0, h⟩ | ⟨c0, h⟩
  · obtain ⟨⟨g0, g1⟩, h⟩ := guardSome h
    cases h
    exact ee sch_kindF [5] [0, 1, 2] (H0.b 6 c0 |>.g s_kindF_2 |>.g g0 |>.g g1)
  · obtain ⟨⟨g0, g1⟩, h⟩ := guardSome h
    cases h
    exact ee sch_kindF [5] [0, 1, 2] (H0.b 6 c0 |>.g s_kindF_3 |>.g g0 |>.g g1)
theorem s_runsW_24 : SOk (regF Tryd.f44 24) [] (List.range 6) [6] := by unfold SOk; kernel_rfl
def t_runsW_49 : ST := .rd 0 (.rd 1 (.rd 2 (.rd 3 (.rd 4 (.rd 5 (.rd 6 (.rd 7 (.rd 8 (.rd 9 (.rd 10 (.rd 11 (.rd 12 (.rd 13 (.ef 14 (.fin [] [1, 3, 5, 7, 14, 16, 18]) (.no)))))))))))))))
theorem s_runsW_49 : TOk (regF Tryd.f44 49) [] t_runsW_49 := by unfold TOk; kernel_rfl
def t_runsW_51 : ST := .rd 0 (.rd 1 (.rd 2 (.rd 3 (.rd 4 (.rd 5 (.rd 6 (.rd 7 (.rd 8 (.ef 9 (.fin [] [1, 3, 5, 7, 14, 16]) (.no))))))))))
theorem s_runsW_51 : TOk (regF Tryd.f44 51) [] t_runsW_51 := by unfold TOk; kernel_rfl
def sch_runsW : Sch := fun i => match i with
  | 24 => .ord [] (List.range 6) [6]
  | 49 => .tre [] t_runsW_49
  | 51 => .tre [] t_runsW_51
  | _ => .no
def hp_runsW_0 (c : ConsD) (q : ProbD) (pos : List Int) (ln : Nat) (o1 : List Int) (o3 : List (Option KS)) : DH := [some (.cells (consC c ++ probC q ++ [.ints pos, .msl 1 1 0 ln])), some (.ints o1), some (.cells [.ref 0 0]), some (.mo (.sets 2 o3 none))]
def hp_runsW_1 (c : ConsD) (q : ProbD) (pos : List Int) (ln : Nat) (o1 : List Int) (o3 : List (Option KS)) (x59 : Int) (gk : LK) : DH := [some (.cells (consC c ++ probC q ++ [.ints pos, .msl 1 1 0 ln])), some (.ints o1), some (.cells [.ref 0 0]), some (.mo (.sets 2 o3 (some (0 + ((x59).toNat), gk))))]
def hp_runsW_2 (c : ConsD) (q : ProbD) (pos : List Int) (ln : Nat) (o1 : List Int) (o3 : List (Option KS)) (o3_i : Nat) (gk : LK) (o4 : KS) : DH := [some (.cells (consC c ++ probC q ++ [.ints pos, .msl 1 1 0 ln])), some (.ints o1), some (.cells [.ref 0 0]), some (.mo (.sets 2 o3 (some (o3_i, gk)))), some (.mo (.mit 2 gk.1 gk.2.1 gk.2.2 o4 none))]
def hp_runsW_3 (c : ConsD) (q : ProbD) (pos : List Int) (ln : Nat) (o1 : List Int) (o3 : List (Option KS)) (o3_i : Nat) (gk : LK) (o4 : KS) (y1 : List Int) : DH := [some (.cells (consC c ++ probC q ++ [.ints pos, .msl 1 1 0 ln])), some (.ints o1), some (.cells [.ref 0 0]), some (.mo (.sets 2 o3 (some (o3_i, gk)))), some (.mo (.mit 2 gk.1 gk.2.1 gk.2.2 (o4.erase y1) (some y1)))]
def hp_runsW_4 (c : ConsD) (q : ProbD) (pos : List Int) (ln : Nat) (o1 : List Int) (o3 : List (Option KS)) (o4 : KS) : DH := [some (.cells (consC c ++ probC q ++ [.ints pos, .msl 1 1 0 ln])), some (.ints o1), some (.cells [.ref 0 0]), some (.mo (.sets 2 o3 none)), some (.mo (.set 2 o4)), some (.mo (.set 2 ([] : KS))), some (.cells [.bool false, .bool false])]
def hp_runsW_5 (c : ConsD) (q : ProbD) (pos : List Int) (ln : Nat) (o1 : List Int) (o3 : List (Option KS)) (x16 : Int) (gk : LK) (o4 : KS) : DH := [some (.cells (consC c ++ probC q ++ [.ints pos, .msl 1 1 0 ln])), some (.ints o1), some (.cells [.ref 0 0]), some (.mo (.sets 2 o3 (some (0 + ((x16).toNat), gk)))), some (.mo (.set 2 o4)), some (.mo (.set 2 ([] : KS))), some (.cells [.bool false, .bool false])]
def hp_runsW_6 (c : ConsD) (q : ProbD) (pos : List Int) (ln : Nat) (o1 : List Int) (o3 : List (Option KS)) (o3_i : Nat) (gk : LK) (o4_0 o4_1 : Int) (o5 : KS) (o5_c : List Int) : DH := [some (.cells (consC c ++ probC q ++ [.ints pos, .msl 1 1 0 ln])), some (.ints o1), some (.cells [.ref 0 0]), some (.mo (.sets 2 o3 (some (o3_i, gk)))), some (.cells [.i o4_0, .i o4_1]), some (.mo (.mit 2 gk.1 gk.2.1 gk.2.2 o5 (some o5_c))), some (.bools ([false, true] : List Bool))]
def hp_runsW_7 (c : ConsD) (q : ProbD) (pos : List Int) (ln : Nat) (y1 : (Int × Int) × Bool × (List Int)) (o3 : List (Option KS)) (o3_i : Nat) (gk : LK) (o4_0 o4_1 : Int) (o5 : KS) (o5_c : List Int) : DH := [some (.cells (consC c ++ probC q ++ [.ints pos, .msl 1 1 0 ln])), some (.ints y1.2.2), some (.cells [.ref 0 0]), some (.mo (.sets 2 o3 (some (o3_i, gk)))), some (.cells [.i o4_0, .i o4_1]), some (.mo (.mit 2 gk.1 gk.2.1 gk.2.2 o5 (some o5_c))), some (.bools ([false, true] : List Bool)), some (.cells [.i y1.1.1, .i y1.1.2])]
def hp_runsW_8 (c : ConsD) (q : ProbD) (pos : List Int) (ln : Nat) (o1 : List Int) (o3 : List (Option KS)) (o3_i : Nat) (gk : LK) (o4 o7 : KS) : DH := [some (.cells (consC c ++ probC q ++ [.ints pos, .msl 1 1 0 ln])), some (.ints o1), some (.cells [.ref 0 0]), some (.mo (.sets 2 o3 (some (o3_i, gk)))), some (.mo (.set 2 o4)), some (.mo (.set 2 ([] : KS))), some (.cells [.bool false, .bool false]), some (.mo (.mit 2 gk.1 gk.2.1 gk.2.2 o7 none))]
def tgt_runsW_9 (c : ConsD) (x16 : Int) (q : ProbD) (pos : List Int) (ln : Nat) (y2 : (List Int)) (o3 : List (Option KS)) (o4 : KS) : St := ⟨(frm 208 [(1, .ref 2 0), (3, .fn 62 1 (L1 [.ref 2 0])), (5, .msl 3 1 0 ((((c.cells.length : Int) + 1)).toNat)), (7, .fn 63 1 (L1 [.ref 2 0])), (14, .it 5), (16, .i x16), (18, .ref 6 0)]), ([some (.cells (consC c ++ probC q ++ [.ints pos, .msl 1 1 0 ln])), some (.ints y2), some (.cells [.ref 0 0]), some (.mo (.sets 2 o3 none)), some (.mo (.set 2 o4)), some (.mo (.set 2 ([] : KS))), some (.cells [.bool false, .bool false])] : DH)⟩
def hp_runsW_10 (c : ConsD) (q : ProbD) (pos : List Int) (ln : Nat) (y2 : (List Int)) (o3 : List (Option KS)) (o4 : KS) : DH := [some (.cells (consC c ++ probC q ++ [.ints pos, .msl 1 1 0 ln])), some (.ints y2), some (.cells [.ref 0 0]), some (.mo (.sets 2 o3 none)), some (.mo (.set 2 o4)), some (.mo (.set 2 ([] : KS))), some (.cells [.bool false, .bool false])]
def tgt_runsW_11 (c : ConsD) (x16 : Int) (q : ProbD) (pos : List Int) (ln : Nat) (y3 : (List Int)) (o3 : List (Option KS)) (o4 : KS) : St := ⟨(frm 208 [(1, .ref 2 0), (3, .fn 62 1 (L1 [.ref 2 0])), (5, .msl 3 1 0 ((((c.cells.length : Int) + 1)).toNat)), (7, .fn 63 1 (L1 [.ref 2 0])), (14, .it 5), (16, .i x16)]), ([some (.cells (consC c ++ probC q ++ [.ints pos, .msl 1 1 0 ln])), some (.ints y3), some (.cells [.ref 0 0]), some (.mo (.sets 2 o3 none)), some (.mo (.set 2 o4)), some (.mo (.set 2 ([] : KS))), some (.cells [.bool false, .bool false])] : DH)⟩
def hp_runsW_12 (c : ConsD) (q : ProbD) (pos : List Int) (ln : Nat) (o1 : List Int) (o3 : List (Option KS)) (o3_i : Nat) (gk : LK) (o4 o7 : KS) (y1 : List Int) : DH := [some (.cells (consC c ++ probC q ++ [.ints pos, .msl 1 1 0 ln])), some (.ints o1), some (.cells [.ref 0 0]), some (.mo (.sets 2 o3 (some (o3_i, gk)))), some (.mo (.set 2 o4)), some (.mo (.set 2 ([] : KS))), some (.cells [.bool false, .bool false]), some (.mo (.mit 2 gk.1 gk.2.1 gk.2.2 (o7.erase y1) (some y1)))]
def hp_runsW_13 (c : ConsD) (q : ProbD) (pos : List Int) (ln : Nat) (o1 : List Int) (o3 : List (Option KS)) (o3_i : Nat) (gk : LK) (o4 o5 : KS) (o6_0 o6_1 : Bool) (o7_0 o7_1 : Int) (o8 : KS) (o8_c : List Int) : DH := [some (.cells (consC c ++ probC q ++ [.ints pos, .msl 1 1 0 ln])), some (.ints o1), some (.cells [.ref 0 0]), some (.mo (.sets 2 o3 (some (o3_i, gk)))), some (.mo (.set 2 o4)), some (.mo (.set 2 o5)), some (.cells [.bool o6_0, .bool o6_1]), some (.cells [.i o7_0, .i o7_1]), some (.mo (.mit 2 gk.1 gk.2.1 gk.2.2 o8 (some o8_c))), some (.bools ([false, true] : List Bool))]
def hp_runsW_14 (c : ConsD) (q : ProbD) (pos : List Int) (ln : Nat) (y1 : (Int × Int) × Bool × (List Int)) (o3 : List (Option KS)) (o3_i : Nat) (gk : LK) (o4 o5 : KS) (o6_0 o6_1 : Bool) (o7_0 o7_1 : Int) (o8 : KS) (o8_c : List Int) : DH := [some (.cells (consC c ++ probC q ++ [.ints pos, .msl 1 1 0 ln])), some (.ints y1.2.2), some (.cells [.ref 0 0]), some (.mo (.sets 2 o3 (some (o3_i, gk)))), some (.mo (.set 2 o4)), some (.mo (.set 2 o5)), some (.cells [.bool o6_0, .bool o6_1]), some (.cells [.i o7_0, .i o7_1]), some (.mo (.mit 2 gk.1 gk.2.1 gk.2.2 o8 (some o8_c))), some (.bools ([false, true] : List Bool)), some (.cells [.i y1.1.1, .i y1.1.2])]
def hp_runsW_15 (c : ConsD) (q : ProbD) (pos : List Int) (ln : Nat) (o1 : List Int) (o3 : List (Option KS)) (o3_i : Nat) (gk : LK) (o4 : KS) (o4_c : List Int) : DH := [some (.cells (consC c ++ probC q ++ [.ints pos, .msl 1 1 0 ln])), some (.ints o1), some (.cells [.ref 0 0]), some (.mo (.sets 2 o3 (some (o3_i, gk)))), some (.mo (.mit 2 gk.1 gk.2.1 gk.2.2 o4 (some o4_c)))]
def hp_runsW_16 (c : ConsD) (q : ProbD) (pos : List Int) (ln : Nat) (o1 : List Int) (o3 : List (Option KS)) (o3_i : Nat) (gk : LK) (o4 o5 : KS) (o6_0 o6_1 : Bool) (o7 : KS) (o7_c : List Int) : DH := [some (.cells (consC c ++ probC q ++ [.ints pos, .msl 1 1 0 ln])), some (.ints o1), some (.cells [.ref 0 0]), some (.mo (.sets 2 o3 (some (o3_i, gk)))), some (.mo (.set 2 o4)), some (.mo (.set 2 o5)), some (.cells [.bool o6_0, .bool o6_1]), some (.mo (.mit 2 gk.1 gk.2.1 gk.2.2 o7 (some o7_c)))]
def hp_runsW_17 (c : ConsD) (q : ProbD) (pos : List Int) (ln : Nat) (o1 : List Int) (o3 : List (Option KS)) (o4 o5 : KS) (o6_0 o6_1 : Bool) : DH := [some (.cells (consC c ++ probC q ++ [.ints pos, .msl 1 1 0 ln])), some (.ints o1), some (.cells [.ref 0 0]), some (.mo (.sets 2 o3 none)), some (.mo (.set 2 o4)), some (.mo (.set 2 o5)), some (.cells [.bool o6_0, .bool o6_1])]
def tgt_runsW_18 (c : ConsD) (x16 : Int) (q : ProbD) (pos : List Int) (ln : Nat) (y2 : (List Int)) (o3 : List (Option KS)) (o4 o5 : KS) (o6_0 o6_1 : Bool) : St := ⟨(frm 208 [(1, .ref 2 0), (3, .fn 62 1 (L1 [.ref 2 0])), (5, .msl 3 1 0 ((((c.cells.length : Int) + 1)).toNat)), (7, .fn 63 1 (L1 [.ref 2 0])), (14, .it 5), (16, .i x16), (18, .ref 6 0)]), ([some (.cells (consC c ++ probC q ++ [.ints pos, .msl 1 1 0 ln])), some (.ints y2), some (.cells [.ref 0 0]), some (.mo (.sets 2 o3 none)), some (.mo (.set 2 o4)), some (.mo (.set 2 o5)), some (.cells [.bool o6_0, .bool o6_1])] : DH)⟩
def hp_runsW_19 (c : ConsD) (q : ProbD) (pos : List Int) (ln : Nat) (y2 : (List Int)) (o3 : List (Option KS)) (o4 o5 : KS) (o6_0 o6_1 : Bool) : DH := [some (.cells (consC c ++ probC q ++ [.ints pos, .msl 1 1 0 ln])), some (.ints y2), some (.cells [.ref 0 0]), some (.mo (.sets 2 o3 none)), some (.mo (.set 2 o4)), some (.mo (.set 2 o5)), some (.cells [.bool o6_0, .bool o6_1])]
def tgt_runsW_20 (c : ConsD) (x16 : Int) (q : ProbD) (pos : List Int) (ln : Nat) (y3 : (List Int)) (o3 : List (Option KS)) (o4 o5 : KS) (o6_0 o6_1 : Bool) : St := ⟨(frm 208 [(1, .ref 2 0), (3, .fn 62 1 (L1 [.ref 2 0])), (5, .msl 3 1 0 ((((c.cells.length : Int) + 1)).toNat)), (7, .fn 63 1 (L1 [.ref 2 0])), (14, .it 5), (16, .i x16)]), ([some (.cells (consC c ++ probC q ++ [.ints pos, .msl 1 1 0 ln])), some (.ints y3), some (.cells [.ref 0 0]), some (.mo (.sets 2 o3 none)), some (.mo (.set 2 o4)), some (.mo (.set 2 o5)), some (.cells [.bool o6_0, .bool o6_1])] : DH)⟩
def tgt_runsW_21 (c : ConsD) (x16 : Int) (q : ProbD) (pos : List Int) (ln : Nat) (y2 : (List Int)) (o3 : List (Option KS)) (o4 o5 : KS) (o6_0 o6_1 : Bool) : St := ⟨(frm 208 [(1, .ref 2 0), (3, .fn 62 1 (L1 [.ref 2 0])), (5, .msl 3 1 0 ((((c.cells.length : Int) + 1)).toNat)), (7, .fn 63 1 (L1 [.ref 2 0])), (14, .it 5), (16, .i x16)]), ([some (.cells (consC c ++ probC q ++ [.ints pos, .msl 1 1 0 ln])), some (.ints y2), some (.cells [.ref 0 0]), some (.mo (.sets 2 o3 none)), some (.mo (.set 2 o4)), some (.mo (.set 2 o5)), some (.cells [.bool o6_0, .bool o6_1])] : DH)⟩
def hp_runsW_22 (c : ConsD) (q : ProbD) (pos : List Int) (ln : Nat) (o1 : List Int) (o3 : List (Option KS)) (o3_i : Nat) (gk : LK) (o4 o5 : KS) (o6_0 o6_1 : Bool) (o7 : KS) (y1 : List Int) : DH := [some (.cells (consC c ++ probC q ++ [.ints pos, .msl 1 1 0 ln])), some (.ints o1), some (.cells [.ref 0 0]), some (.mo (.sets 2 o3 (some (o3_i, gk)))), some (.mo (.set 2 o4)), some (.mo (.set 2 o5)), some (.cells [.bool o6_0, .bool o6_1]), some (.mo (.mit 2 gk.1 gk.2.1 gk.2.2 (o7.erase y1) (some y1)))]
inductive runsWPt where
  | l1 (x45 : Int) (o3 : List (Option KS))
  | l2 (x59 : Int) (o1 : List Int) (o3 : List (Option KS))
  | l3 (x8 x59 : Int) (o1 : List Int) (o3 : List (Option KS)) (o3_i : Nat) (o4 : KS)
  | l4 (x16 : Int) (o1 : List Int) (o3 : List (Option KS)) (o4 : KS)
  | l5 (x8 x59 x73 : Int) (o1 : List Int) (o3 : List (Option KS)) (o3_i : Nat) (o4_0 o4_1 : Int) (o5 : KS) (o5_c : List Int)
  | l6 (x16 : Int) (o1 : List Int) (o3 : List (Option KS)) (o3_i : Nat) (o4 o7 : KS)
  | l7 (x16 x147 : Int) (o1 : List Int) (o3 : List (Option KS)) (o3_i : Nat) (o4 o5 : KS) (o6_0 o6_1 : Bool) (o7_0 o7_1 : Int) (o8 : KS) (o8_c : List Int)
  | l8 (x8 x59 : Int) (o1 : List Int) (o3 : List (Option KS)) (o3_i : Nat) (o4 : KS) (o4_c : List Int)
  | l9 (x16 : Int) (o1 : List Int) (o3 : List (Option KS)) (o3_i : Nat) (o4 o5 : KS) (o6_0 o6_1 : Bool) (o7 : KS) (o7_c : List Int)
def runsW_l1 (n : Nat) (self : runsWPt → Option (Bool × (List Int))) (c : ConsD) (q : ProbD) (pos : List Int) (ln : Nat) (lost : List Int) (x45 : Int) (o3 : List (Option KS)) : Option (Bool × (List Int)) :=
  bif (decide (x45 < (((((c.cells.length : Int) + 1)).toNat : Nat) : Int))) then
   if (0 ≤ x45 ∧ x45 < (((((c.cells.length : Int) + 1)).toNat : Nat) : Int)) ∧ 0 + ((x45).toNat) < o3.length ∧ R64 (x45 + 1) then
    self (.l1 (x45 + 1) (o3.set (0 + ((x45).toNat)) (some ([] : KS))))
   else none
  else
   if ((0 : Int) ≤ 0 ∧ 0 < (((((c.cells.length : Int) + 1)).toNat : Nat) : Int)) ∧ 0 + 0 < o3.length ∧ (o3.getD (0 + 0) none).isSome = true then
    self (.l2 0 lost (o3.set (0 + 0) (some (putK [0, 0] ((o3.getD (0 + 0) none).getD [])))))
   else none
def runsW_l2 (n : Nat) (self : runsWPt → Option (Bool × (List Int))) (c : ConsD) (q : ProbD) (pos : List Int) (ln : Nat) (lost : List Int) (x59 : Int) (o1 : List Int) (o3 : List (Option KS)) : Option (Bool × (List Int)) :=
  bif (decide (x59 < (c.cells.length : Int))) then
   if (o3.getD (0 + ((x59).toNat)) none).isSome = true then
    if (0 ≤ x59 ∧ x59 < (((((c.cells.length : Int) + 1)).toNat : Nat) : Int)) ∧ 0 + ((x59).toNat) < o3.length ∧ (o3.getD (0 + ((x59).toNat)) none).isSome = true then
     self (.l3 x59 x59 o1 o3 (0 + ((x59).toNat)) ((o3.getD (0 + ((x59).toNat)) none).getD []))
    else none
   else none
  else
   bif (decide ((c.runs.length : Int) > 0)) then
    if R64 ((c.runs.length : Int) - 1) ∧ ((0 : Int) ≤ ((c.runs.length : Int) - 1) ∧ ((c.runs.length : Int) - 1) < (c.runs.length : Int)) ∧ R64 ((c.cells.length : Int) - 1) then
     self (.l4 ((c.cells.length : Int) - 1) o1 o3 (putK [((c.runs.length : Int) - 1), c.runs.getD ((((c.runs.length : Int) - 1)).toNat) 0] (putK [(c.runs.length : Int), 0] ([] : KS))))
    else none
   else
    if R64 ((c.cells.length : Int) - 1) then
     self (.l4 ((c.cells.length : Int) - 1) o1 o3 (putK [(c.runs.length : Int), 0] ([] : KS)))
    else none
def runsW_l3 (n : Nat) (self : runsWPt → Option (Bool × (List Int))) (c : ConsD) (q : ProbD) (pos : List Int) (ln : Nat) (lost : List Int) (x8 x59 : Int) (o1 : List Int) (o3 : List (Option KS)) (o3_i : Nat) (o4 : KS) : Option (Bool × (List Int)) :=
  if (o3.getD o3_i none).isSome = true then
   onNext o4 (
    if R64 (x59 + 1) then
     self (.l2 (x59 + 1) o1 o3)
    else none) fun y1 =>
    if (o3.getD o3_i none).isSome = true then
     self (.l5 x8 x59 0 o1 o3 o3_i (y1.getD 0 0) (y1.getD 1 0) (o4.erase y1) y1)
    else none
  else none
def runsW_l4 (n : Nat) (self : runsWPt → Option (Bool × (List Int))) (c : ConsD) (q : ProbD) (pos : List Int) (ln : Nat) (lost : List Int) (x16 : Int) (o1 : List Int) (o3 : List (Option KS)) (o4 : KS) : Option (Bool × (List Int)) :=
  bif (decide (x16 ≥ 0)) then
   if (o3.getD (0 + ((x16).toNat)) none).isSome = true then
    if (0 ≤ x16 ∧ x16 < (((((c.cells.length : Int) + 1)).toNat : Nat) : Int)) ∧ 0 + ((x16).toNat) < o3.length ∧ (o3.getD (0 + ((x16).toNat)) none).isSome = true then
     self (.l6 x16 o1 o3 (0 + ((x16).toNat)) o4 ((o3.getD (0 + ((x16).toNat)) none).getD []))
    else none
   else none
  else
   some (true, o1)
def runsW_l5 (n : Nat) (self : runsWPt → Option (Bool × (List Int))) (c : ConsD) (q : ProbD) (pos : List Int) (ln : Nat) (lost : List Int) (x8 x59 x73 : Int) (o1 : List Int) (o3 : List (Option KS)) (o3_i : Nat) (o4_0 o4_1 : Int) (o5 : KS) (o5_c : List Int) : Option (Bool × (List Int)) :=
  bif (decide (x73 < 2)) then
   if (0 ≤ x73 ∧ x73 < ((2 : Nat) : Int)) ∧ 0 + ((x73).toNat) < ([false, true] : List Bool).length then
    (nextF n (o4_0, o4_1) (([false, true] : List Bool).getD (0 + ((x73).toNat)) false) c q pos ln o1).bind fun y1 =>
     bif y1.2.1 then
      (kindF n x8 (([false, true] : List Bool).getD (0 + ((x73).toNat)) false) c q pos ln y1.2.2).bind fun y2 =>
       bif y2.1 then
        if R64 (x8 + 1) ∧ (0 ≤ (x8 + 1) ∧ (x8 + 1) < (((((c.cells.length : Int) + 1)).toNat : Nat) : Int)) ∧ 0 + (((x8 + 1)).toNat) < o3.length ∧ o3_i ≠ 0 + (((x8 + 1)).toNat) ∧ (o3.getD (0 + (((x8 + 1)).toNat)) none).isSome = true ∧ R64 (x73 + 1) then
         self (.l5 x8 x59 (x73 + 1) y2.2 (o3.set (0 + (((x8 + 1)).toNat)) (some (putK [y1.1.1, y1.1.2] ((o3.getD (0 + (((x8 + 1)).toNat)) none).getD [])))) o3_i o4_0 o4_1 o5 o5_c)
        else none
       else
        if R64 (x73 + 1) then
         self (.l5 x8 x59 (x73 + 1) y2.2 o3 o3_i o4_0 o4_1 o5 o5_c)
        else none
     else
      if R64 (x73 + 1) then
       self (.l5 x8 x59 (x73 + 1) y1.2.2 o3 o3_i o4_0 o4_1 o5 o5_c)
      else none
   else none
  else
   self (.l8 x8 x59 o1 o3 o3_i o5 o5_c)
def runsW_l6 (n : Nat) (self : runsWPt → Option (Bool × (List Int))) (c : ConsD) (q : ProbD) (pos : List Int) (ln : Nat) (lost : List Int) (x16 : Int) (o1 : List Int) (o3 : List (Option KS)) (o3_i : Nat) (o4 o7 : KS) : Option (Bool × (List Int)) :=
  if (o3.getD o3_i none).isSome = true then
   onNext o7 (
    if 0 ≤ x16 ∧ x16 < (c.cells.length : Int) then
     (loseW n (c.cells.getD ((x16).toNat) 0) c.set c q pos ln o1).bind fun y2 =>
      (onlyW n (c.cells.getD ((x16).toNat) 0) c q pos ln y2).bind fun y3 =>
       if R64 (x16 - 1) then
        self (.l4 (x16 - 1) y3 o3 ([] : KS))
       else none
    else none) fun y1 =>
    if (o3.getD o3_i none).isSome = true then
     self (.l7 x16 0 o1 o3 o3_i o4 ([] : KS) false false (y1.getD 0 0) (y1.getD 1 0) (o7.erase y1) y1)
    else none
  else none
def runsW_l7 (n : Nat) (self : runsWPt → Option (Bool × (List Int))) (c : ConsD) (q : ProbD) (pos : List Int) (ln : Nat) (lost : List Int) (x16 x147 : Int) (o1 : List Int) (o3 : List (Option KS)) (o3_i : Nat) (o4 o5 : KS) (o6_0 o6_1 : Bool) (o7_0 o7_1 : Int) (o8 : KS) (o8_c : List Int) : Option (Bool × (List Int)) :=
  bif (decide (x147 < 2)) then
   if (0 ≤ x147 ∧ x147 < ((2 : Nat) : Int)) ∧ 0 + ((x147).toNat) < ([false, true] : List Bool).length then
    (nextF n (o7_0, o7_1) (([false, true] : List Bool).getD (0 + ((x147).toNat)) false) c q pos ln o1).bind fun y1 =>
     bif y1.2.1 then
      (kindF n x16 (([false, true] : List Bool).getD (0 + ((x147).toNat)) false) c q pos ln y1.2.2).bind fun y2 =>
       bif y2.1 then
        bif (o4.contains [y1.1.1, y1.1.2]) then
         bif (x147 == 0) then
          if R64 (x147 + 1) then
           self (.l7 x16 (x147 + 1) y2.2 o3 o3_i o4 (putK [o7_0, o7_1] o5) true o6_1 o7_0 o7_1 o8 o8_c)
          else none
         else
          bif (x147 == 1) then
           if R64 (x147 + 1) then
            self (.l7 x16 (x147 + 1) y2.2 o3 o3_i o4 (putK [o7_0, o7_1] o5) o6_0 true o7_0 o7_1 o8 o8_c)
           else none
          else
           none
        else
         if R64 (x147 + 1) then
          self (.l7 x16 (x147 + 1) y2.2 o3 o3_i o4 o5 o6_0 o6_1 o7_0 o7_1 o8 o8_c)
         else none
       else
        if R64 (x147 + 1) then
         self (.l7 x16 (x147 + 1) y2.2 o3 o3_i o4 o5 o6_0 o6_1 o7_0 o7_1 o8 o8_c)
        else none
     else
      if R64 (x147 + 1) then
       self (.l7 x16 (x147 + 1) y1.2.2 o3 o3_i o4 o5 o6_0 o6_1 o7_0 o7_1 o8 o8_c)
      else none
   else none
  else
   self (.l9 x16 o1 o3 o3_i o4 o5 o6_0 o6_1 o8 o8_c)
def runsW_l8 (n : Nat) (self : runsWPt → Option (Bool × (List Int))) (c : ConsD) (q : ProbD) (pos : List Int) (ln : Nat) (lost : List Int) (x8 x59 : Int) (o1 : List Int) (o3 : List (Option KS)) (o3_i : Nat) (o4 : KS) (o4_c : List Int) : Option (Bool × (List Int)) :=
  if (o3.getD o3_i none).isSome = true then
   onNext o4 (
    if R64 (x59 + 1) then
     self (.l2 (x59 + 1) o1 o3)
    else none) fun y1 =>
    if (o3.getD o3_i none).isSome = true then
     self (.l5 x8 x59 0 o1 o3 o3_i (y1.getD 0 0) (y1.getD 1 0) (o4.erase y1) y1)
    else none
  else none
def runsW_l9 (n : Nat) (self : runsWPt → Option (Bool × (List Int))) (c : ConsD) (q : ProbD) (pos : List Int) (ln : Nat) (lost : List Int) (x16 : Int) (o1 : List Int) (o3 : List (Option KS)) (o3_i : Nat) (o4 o5 : KS) (o6_0 o6_1 : Bool) (o7 : KS) (o7_c : List Int) : Option (Bool × (List Int)) :=
  if (o3.getD o3_i none).isSome = true then
   onNext o7 (
    bif (!o6_1) then
     if 0 ≤ x16 ∧ x16 < (c.cells.length : Int) then
      (loseW n (c.cells.getD ((x16).toNat) 0) c.set c q pos ln o1).bind fun y2 =>
       bif (!o6_0) then
        (onlyW n (c.cells.getD ((x16).toNat) 0) c q pos ln y2).bind fun y3 =>
         if R64 (x16 - 1) then
          self (.l4 (x16 - 1) y3 o3 o5)
         else none
       else
        if R64 (x16 - 1) then
         self (.l4 (x16 - 1) y2 o3 o5)
        else none
     else none
    else
     bif (!o6_0) then
      if 0 ≤ x16 ∧ x16 < (c.cells.length : Int) then
       (onlyW n (c.cells.getD ((x16).toNat) 0) c q pos ln o1).bind fun y2 =>
        if R64 (x16 - 1) then
         self (.l4 (x16 - 1) y2 o3 o5)
        else none
      else none
     else
      if R64 (x16 - 1) then
       self (.l4 (x16 - 1) o1 o3 o5)
      else none) fun y1 =>
    if (o3.getD o3_i none).isSome = true then
     self (.l7 x16 0 o1 o3 o3_i o4 o5 o6_0 o6_1 (y1.getD 0 0) (y1.getD 1 0) (o7.erase y1) y1)
    else none
  else none
def runsW_l0 (n : Nat) (self : runsWPt → Option (Bool × (List Int))) (c : ConsD) (q : ProbD) (pos : List Int) (ln : Nat) (lost : List Int) : Option (Bool × (List Int)) :=
  bif ((c.cells.length : Int) == 0) then
   some (((c.runs.length : Int) == 0), lost)
  else
   if R64 ((c.cells.length : Int) + 1) ∧ ((((c.cells.length : Int) + 1) : Int) = ((c.cells.length : Int) + 1) ∧ (0 : Int) ≤ ((c.cells.length : Int) + 1) ∧ (((c.cells.length : Int) + 1) : Int) ≤ 1000000000000) then
    self (.l1 0 (List.replicate ((((c.cells.length : Int) + 1)).toNat) (none : Option KS)))
   else none
def runsW_m (c : ConsD) (q : ProbD) (pos : List Int) (ln : Nat) (lost : List Int) : Nat → runsWPt → Option (Bool × (List Int))
  | 0, _ => none
  | n + 1, .l1 x45 o3 => runsW_l1 n (runsW_m c q pos ln lost n) c q pos ln lost x45 o3
  | n + 1, .l2 x59 o1 o3 => runsW_l2 n (runsW_m c q pos ln lost n) c q pos ln lost x59 o1 o3
  | n + 1, .l3 x8 x59 o1 o3 o3_i o4 => runsW_l3 n (runsW_m c q pos ln lost n) c q pos ln lost x8 x59 o1 o3 o3_i o4
  | n + 1, .l4 x16 o1 o3 o4 => runsW_l4 n (runsW_m c q pos ln lost n) c q pos ln lost x16 o1 o3 o4
  | n + 1, .l5 x8 x59 x73 o1 o3 o3_i o4_0 o4_1 o5 o5_c => runsW_l5 n (runsW_m c q pos ln lost n) c q pos ln lost x8 x59 x73 o1 o3 o3_i o4_0 o4_1 o5 o5_c
  | n + 1, .l6 x16 o1 o3 o3_i o4 o7 => runsW_l6 n (runsW_m c q pos ln lost n) c q pos ln lost x16 o1 o3 o3_i o4 o7
  | n + 1, .l7 x16 x147 o1 o3 o3_i o4 o5 o6_0 o6_1 o7_0 o7_1 o8 o8_c => runsW_l7 n (runsW_m c q pos ln lost n) c q pos ln lost x16 x147 o1 o3 o3_i o4 o5 o6_0 o6_1 o7_0 o7_1 o8 o8_c
  | n + 1, .l8 x8 x59 o1 o3 o3_i o4 o4_c => runsW_l8 n (runsW_m c q pos ln lost n) c q pos ln lost x8 x59 o1 o3 o3_i o4 o4_c
  | n + 1, .l9 x16 o1 o3 o3_i o4 o5 o6_0 o6_1 o7 o7_c => runsW_l9 n (runsW_m c q pos ln lost n) c q pos ln lost x16 o1 o3 o3_i o4 o5 o6_0 o6_1 o7 o7_c
def runsW (n : Nat) (c : ConsD) (q : ProbD) (pos : List Int) (ln : Nat) (lost : List Int) : Option (Bool × (List Int)) := runsW_l0 n (runsW_m c q pos ln lost n) c q pos ln lost
/-- What the points stand for. -/
def runsW_at (n : Nat) (B : Nat) (N : Yard Tryd.prog GG 2) (c : ConsD) (q : ProbD) (pos : List Int) (ln : Nat) (lost : List Int) (r : Bool × (List Int)) : runsWPt → Prop
  | .l1 x45 o3 => ∀ m0 : Nat, n ≤ m0 → TrK Tryd.prog GG Fence.wide (some B) 2 N (Fin Tryd.prog Tryd.f44 2 (.bool r.1) [some (.cells (consC c ++ probC q ++ [.ints pos, .msl 1 1 0 ln])), some (.ints r.2)]) (toN m0 (atNC (bodyC Tryd.f44) 0 [])) ⟨frm 208 [(1, .ref 2 0), (3, .fn 62 1 (L1 [.ref 2 0])), (4, .i (c.cells.length : Int)), (5, .msl 3 1 0 ((((c.cells.length : Int) + 1)).toNat)), (44, .i (((((c.cells.length : Int) + 1)).toNat : Nat) : Int)), (45, .i x45)], [some (.cells (consC c ++ probC q ++ [.ints pos, .msl 1 1 0 ln])), some (.ints lost), some (.cells [.ref 0 0]), some (.mo (.sets 2 o3 none))]⟩
  | .l2 x59 o1 o3 => ∀ m0 : Nat, n ≤ m0 → TrK Tryd.prog GG Fence.wide (some B) 2 N (Fin Tryd.prog Tryd.f44 2 (.bool r.1) [some (.cells (consC c ++ probC q ++ [.ints pos, .msl 1 1 0 ln])), some (.ints r.2)]) (toN m0 (atNC (bodyC Tryd.f44) 2 [])) ⟨frm 208 [(1, .ref 2 0), (3, .fn 62 1 (L1 [.ref 2 0])), (4, .i (c.cells.length : Int)), (5, .msl 3 1 0 ((((c.cells.length : Int) + 1)).toNat)), (7, .fn 63 1 (L1 [.ref 2 0])), (58, .i (c.cells.length : Int)), (59, .i x59)], [some (.cells (consC c ++ probC q ++ [.ints pos, .msl 1 1 0 ln])), some (.ints o1), some (.cells [.ref 0 0]), some (.mo (.sets 2 o3 none))]⟩
  | .l3 x8 x59 o1 o3 o3_i o4 => ∀ m0 m1 : Nat, n ≤ m0 → n ≤ m1 → ∀ gk : LK, TrK Tryd.prog GG Fence.wide (some B) 2 N (Fin Tryd.prog Tryd.f44 2 (.bool r.1) [some (.cells (consC c ++ probC q ++ [.ints pos, .msl 1 1 0 ln])), some (.ints r.2)]) (toN m1 (atNC (bodyC Tryd.f44) 4 [m0])) ⟨frm 208 [(1, .ref 2 0), (3, .fn 62 1 (L1 [.ref 2 0])), (4, .i (c.cells.length : Int)), (5, .msl 3 1 0 ((((c.cells.length : Int) + 1)).toNat)), (7, .fn 63 1 (L1 [.ref 2 0])), (8, .i x8), (58, .i (c.cells.length : Int)), (59, .i x59), (66, .it 4)], [some (.cells (consC c ++ probC q ++ [.ints pos, .msl 1 1 0 ln])), some (.ints o1), some (.cells [.ref 0 0]), some (.mo (.sets 2 o3 (some (o3_i, gk)))), some (.mo (.mit 2 gk.1 gk.2.1 gk.2.2 o4 none))]⟩
  | .l4 x16 o1 o3 o4 => ∀ m0 : Nat, n ≤ m0 → TrK Tryd.prog GG Fence.wide (some B) 2 N (Fin Tryd.prog Tryd.f44 2 (.bool r.1) [some (.cells (consC c ++ probC q ++ [.ints pos, .msl 1 1 0 ln])), some (.ints r.2)]) (toN m0 (atNC (bodyC Tryd.f44) 8 [])) ⟨frm 208 [(1, .ref 2 0), (3, .fn 62 1 (L1 [.ref 2 0])), (5, .msl 3 1 0 ((((c.cells.length : Int) + 1)).toNat)), (7, .fn 63 1 (L1 [.ref 2 0])), (14, .it 4), (16, .i x16)], [some (.cells (consC c ++ probC q ++ [.ints pos, .msl 1 1 0 ln])), some (.ints o1), some (.cells [.ref 0 0]), some (.mo (.sets 2 o3 none)), some (.mo (.set 2 o4))]⟩
  | .l5 x8 x59 x73 o1 o3 o3_i o4_0 o4_1 o5 o5_c => ∀ m0 m1 m2 : Nat, n ≤ m0 → n ≤ m1 → n ≤ m2 → ∀ gk : LK, TrK Tryd.prog GG Fence.wide (some B) 2 N (Fin Tryd.prog Tryd.f44 2 (.bool r.1) [some (.cells (consC c ++ probC q ++ [.ints pos, .msl 1 1 0 ln])), some (.ints r.2)]) (toN m2 (atNC (bodyC Tryd.f44) 6 [m0, m1])) ⟨frm 208 [(1, .ref 2 0), (3, .fn 62 1 (L1 [.ref 2 0])), (4, .i (c.cells.length : Int)), (5, .msl 3 1 0 ((((c.cells.length : Int) + 1)).toNat)), (7, .fn 63 1 (L1 [.ref 2 0])), (8, .i x8), (9, .ref 4 0), (58, .i (c.cells.length : Int)), (59, .i x59), (66, .it 5), (71, .msl 6 1 0 2), (72, .i 2), (73, .i x73)], [some (.cells (consC c ++ probC q ++ [.ints pos, .msl 1 1 0 ln])), some (.ints o1), some (.cells [.ref 0 0]), some (.mo (.sets 2 o3 (some (o3_i, gk)))), some (.cells [.i o4_0, .i o4_1]), some (.mo (.mit 2 gk.1 gk.2.1 gk.2.2 o5 (some o5_c))), some (.bools ([false, true] : List Bool))]⟩
  | .l6 x16 o1 o3 o3_i o4 o7 => ∀ m0 m1 : Nat, n ≤ m0 → n ≤ m1 → ∀ gk : LK, TrK Tryd.prog GG Fence.wide (some B) 2 N (Fin Tryd.prog Tryd.f44 2 (.bool r.1) [some (.cells (consC c ++ probC q ++ [.ints pos, .msl 1 1 0 ln])), some (.ints r.2)]) (toN m1 (atNC (bodyC Tryd.f44) 10 [m0])) ⟨frm 208 [(1, .ref 2 0), (3, .fn 62 1 (L1 [.ref 2 0])), (5, .msl 3 1 0 ((((c.cells.length : Int) + 1)).toNat)), (7, .fn 63 1 (L1 [.ref 2 0])), (14, .it 4), (16, .i x16), (17, .it 5), (18, .ref 6 0), (140, .it 7)], [some (.cells (consC c ++ probC q ++ [.ints pos, .msl 1 1 0 ln])), some (.ints o1), some (.cells [.ref 0 0]), some (.mo (.sets 2 o3 (some (o3_i, gk)))), some (.mo (.set 2 o4)), some (.mo (.set 2 ([] : KS))), some (.cells [.bool false, .bool false]), some (.mo (.mit 2 gk.1 gk.2.1 gk.2.2 o7 none))]⟩
  | .l7 x16 x147 o1 o3 o3_i o4 o5 o6_0 o6_1 o7_0 o7_1 o8 o8_c => ∀ m0 m1 m2 : Nat, n ≤ m0 → n ≤ m1 → n ≤ m2 → ∀ gk : LK, TrK Tryd.prog GG Fence.wide (some B) 2 N (Fin Tryd.prog Tryd.f44 2 (.bool r.1) [some (.cells (consC c ++ probC q ++ [.ints pos, .msl 1 1 0 ln])), some (.ints r.2)]) (toN m2 (atNC (bodyC Tryd.f44) 12 [m0, m1])) ⟨frm 208 [(1, .ref 2 0), (3, .fn 62 1 (L1 [.ref 2 0])), (5, .msl 3 1 0 ((((c.cells.length : Int) + 1)).toNat)), (7, .fn 63 1 (L1 [.ref 2 0])), (14, .it 4), (16, .i x16), (17, .it 5), (18, .ref 6 0), (19, .ref 7 0), (140, .it 8), (145, .msl 9 1 0 2), (146, .i 2), (147, .i x147)], [some (.cells (consC c ++ probC q ++ [.ints pos, .msl 1 1 0 ln])), some (.ints o1), some (.cells [.ref 0 0]), some (.mo (.sets 2 o3 (some (o3_i, gk)))), some (.mo (.set 2 o4)), some (.mo (.set 2 o5)), some (.cells [.bool o6_0, .bool o6_1]), some (.cells [.i o7_0, .i o7_1]), some (.mo (.mit 2 gk.1 gk.2.1 gk.2.2 o8 (some o8_c))), some (.bools ([false, true] : List Bool))]⟩
  | .l8 x8 x59 o1 o3 o3_i o4 o4_c => ∀ m0 m1 : Nat, n ≤ m0 → n ≤ m1 → ∀ gk : LK, TrK Tryd.prog GG Fence.wide (some B) 2 N (Fin Tryd.prog Tryd.f44 2 (.bool r.1) [some (.cells (consC c ++ probC q ++ [.ints pos, .msl 1 1 0 ln])), some (.ints r.2)]) (toN m1 (atNC (bodyC Tryd.f44) 4 [m0])) ⟨frm 208 [(1, .ref 2 0), (3, .fn 62 1 (L1 [.ref 2 0])), (4, .i (c.cells.length : Int)), (5, .msl 3 1 0 ((((c.cells.length : Int) + 1)).toNat)), (7, .fn 63 1 (L1 [.ref 2 0])), (8, .i x8), (58, .i (c.cells.length : Int)), (59, .i x59), (66, .it 4)], [some (.cells (consC c ++ probC q ++ [.ints pos, .msl 1 1 0 ln])), some (.ints o1), some (.cells [.ref 0 0]), some (.mo (.sets 2 o3 (some (o3_i, gk)))), some (.mo (.mit 2 gk.1 gk.2.1 gk.2.2 o4 (some o4_c)))]⟩
  | .l9 x16 o1 o3 o3_i o4 o5 o6_0 o6_1 o7 o7_c => ∀ m0 m1 : Nat, n ≤ m0 → n ≤ m1 → ∀ gk : LK, TrK Tryd.prog GG Fence.wide (some B) 2 N (Fin Tryd.prog Tryd.f44 2 (.bool r.1) [some (.cells (consC c ++ probC q ++ [.ints pos, .msl 1 1 0 ln])), some (.ints r.2)]) (toN m1 (atNC (bodyC Tryd.f44) 10 [m0])) ⟨frm 208 [(1, .ref 2 0), (3, .fn 62 1 (L1 [.ref 2 0])), (5, .msl 3 1 0 ((((c.cells.length : Int) + 1)).toNat)), (7, .fn 63 1 (L1 [.ref 2 0])), (14, .it 4), (16, .i x16), (17, .it 5), (18, .ref 6 0), (140, .it 7)], [some (.cells (consC c ++ probC q ++ [.ints pos, .msl 1 1 0 ln])), some (.ints o1), some (.cells [.ref 0 0]), some (.mo (.sets 2 o3 (some (o3_i, gk)))), some (.mo (.set 2 o4)), some (.mo (.set 2 o5)), some (.cells [.bool o6_0, .bool o6_1]), some (.mo (.mit 2 gk.1 gk.2.1 gk.2.2 o7 (some o7_c)))]⟩
theorem runsW_all (B : Nat) (N : Yard Tryd.prog GG 2) (c : ConsD) (q : ProbD) (pos : List Int) (ln : Nat) (lost : List Int) : ∀ (n : Nat) (pt : runsWPt) (r : Bool × (List Int)), runsW_m c q pos ln lost n pt = some r → runsW_at n B N c q pos ln lost r pt := by
  intro n; induction n with
  | zero => intro _ _ h; cases h
  | succ n hself =>
   intro pt r h
   cases pt
   case l1 x45 o3 =>
    have h : runsW_l1 n (runsW_m c q pos ln lost n) c q pos ln lost x45 o3 = some r := h
    intro m0 hm0
    refine rd hm0 fun m0 hm0 => ?_
    unfold runsW_l1 at h
    rcases bifSome h with ⟨c0, h⟩ | ⟨c0, h⟩
    · obtain ⟨⟨g0, g1, g2⟩, h⟩ := guardSome h
      exact gg sch_runsW [0, 1, 2, 5] (H0.b 46 c0 |>.g g0 |>.g g1 |>.w 52 g2) (hself _ _ h m0 hm0)
    · obtain ⟨⟨g0, g1, g2⟩, h⟩ := guardSome h
      exact gg sch_runsW [0, 1, 2, 3] (H0.b 46 c0 |>.g g0 |>.g g1 |>.g g2 |>.g (lkOff_none (i := 0 + 0))) (en n (hself _ _ h n (Nat.le_refl _)))
   case l2 x59 o1 o3 =>
    have h : runsW_l2 n (runsW_m c q pos ln lost n) c q pos ln lost x59 o1 o3 = some r := h
    intro m0 hm0
    refine rd hm0 fun m0 hm0 => ?_
    unfold runsW_l2 at h
    rcases bifSome h with ⟨c0, h⟩ | ⟨c0, h⟩
    · obtain ⟨g0, h⟩ := guardSome h
      refine gs (stopAt 16 sch_runsW) [0, 1, 2, 3] (H0.b 60 c0) (atGC (bodyC Tryd.f44) 16 [m0]) (frm 208 [(1, .ref 2 0), (3, .fn 62 1 (L1 [.ref 2 0])), (4, .i (c.cells.length : Int)), (5, .msl 3 1 0 ((((c.cells.length : Int) + 1)).toNat)), (7, .fn 63 1 (L1 [.ref 2 0])), (8, .i x59), (58, .i (c.cells.length : Int)), (59, .i x59)]) (hp_runsW_0 c q pos ln o1 o3) ?_
      refine TrK.lock 3 (0 + ((x59).toNat)) 2 (by kernel_rfl) g0 (by kernel_rfl) (fun gk => (hp_runsW_1 c q pos ln o1 o3 x59 gk)) (by kernel_rfl) fun gk => ?_
      obtain ⟨⟨g1, g2, g3⟩, h⟩ := guardSome h
      exact gg sch_runsW [0, 1, 2, 3, 4] (H0.g g1 |>.g g2 |>.g g3 |>.g (Eq.refl (0 + ((x59).toNat)))) (en n (hself _ _ h m0 n hm0 (Nat.le_refl _) gk))
    · have p := H0.b 60 c0
      rcases bifSome h with ⟨c1, h⟩ | ⟨c1, h⟩
      · obtain ⟨⟨g0, g1, g2⟩, h⟩ := guardSome h
        exact gg sch_runsW [0, 1, 2, 3, 4] (p.b 115 c1 |>.w 118 g0 |>.w 125 g0 |>.g g1 |>.w 130 g2) (en n (hself _ _ h n (Nat.le_refl _)))
      · obtain ⟨g0, h⟩ := guardSome h
        exact gg sch_runsW [0, 1, 2, 3, 4] (p.b 115 c1 |>.w 130 g0) (en n (hself _ _ h n (Nat.le_refl _)))
   case l3 x8 x59 o1 o3 o3_i o4 =>
    have h : runsW_l3 n (runsW_m c q pos ln lost n) c q pos ln lost x8 x59 o1 o3 o3_i o4 = some r := h
    intro m0 m1 hm0 hm1
    intro gk
    have hm0 := Nat.le_of_succ_le hm0
    refine rd hm1 fun m1 hm1 => ?_
    unfold runsW_l3 at h
    refine gs (stopAt 17 sch_runsW) [0, 1, 2, 3, 4] H0 (atGC (bodyC Tryd.f44) 17 [m0, m1]) (frm 208 [(1, .ref 2 0), (3, .fn 62 1 (L1 [.ref 2 0])), (4, .i (c.cells.length : Int)), (5, .msl 3 1 0 ((((c.cells.length : Int) + 1)).toNat)), (7, .fn 63 1 (L1 [.ref 2 0])), (8, .i x8), (58, .i (c.cells.length : Int)), (59, .i x59), (66, .it 4)]) (hp_runsW_2 c q pos ln o1 o3 o3_i gk o4) ?_
    obtain ⟨g0, h⟩ := guardSome h
    have h := onNext_spec h
    refine TrG.nx (ops := regF Tryd.f44 17) HC.x (by kernel_rfl) (by kernel_rfl) 4 3 o3_i 2 o3 gk o4 none [1, 3, 4, 5, 7, 8, 58, 59, 66, 68] [0, 1, 2, 3] (frm 208 [(1, .ref 2 0), (3, .fn 62 1 (L1 [.ref 2 0])), (4, .i (c.cells.length : Int)), (5, .msl 3 1 0 ((((c.cells.length : Int) + 1)).toNat)), (7, .fn 63 1 (L1 [.ref 2 0])), (8, .i x8), (58, .i (c.cells.length : Int)), (59, .i x59), (68, .bool false)]) (hp_runsW_0 c q pos ln o1 o3) [0, 1, 2, 3, 4] (fun y1 => frm 208 [(1, .ref 2 0), (3, .fn 62 1 (L1 [.ref 2 0])), (4, .i (c.cells.length : Int)), (5, .msl 3 1 0 ((((c.cells.length : Int) + 1)).toNat)), (7, .fn 63 1 (L1 [.ref 2 0])), (8, .i x8), (58, .i (c.cells.length : Int)), (59, .i x59), (66, .it 4), (68, .bool true)]) (fun y1 => (hp_runsW_3 c q pos ln o1 o3 o3_i gk o4 y1)) (by kernel_rfl) (by kernel_rfl) (by kernel_rfl) (by decide) g0 (by kernel_rfl) (by kernel_rfl) (fun _ => by kernel_rfl) (fun he => ?_) (fun y1 he => ?_)
    · replace h := h.1 he
      obtain ⟨g1, h⟩ := guardSome h
      exact gg sch_runsW [0, 1, 2, 3] (H0.w 98 g1) (hself _ _ h m0 hm0)
    · replace h := h.2 y1 he
      obtain ⟨g1, h⟩ := guardSome h
      exact gg sch_runsW [0, 1, 2, 3, 5, 4, 6] (H0.g g1 |>.g (Eq.refl gk.1) |>.g (Eq.refl gk.2.1) |>.g (Eq.refl gk.2.2) |>.t) (en n (hself _ _ h m0 m1 n hm0 hm1 (Nat.le_refl _) gk))
   case l4 x16 o1 o3 o4 =>
    have h : runsW_l4 n (runsW_m c q pos ln lost n) c q pos ln lost x16 o1 o3 o4 = some r := h
    intro m0 hm0
    refine rd hm0 fun m0 hm0 => ?_
    unfold runsW_l4 at h
    rcases bifSome h with ⟨c0, h⟩ | ⟨c0, h⟩
    · obtain ⟨g0, h⟩ := guardSome h
      refine gs (stopAt 36 sch_runsW) [0, 1, 2, 3, 4, 5, 6] (H0.b 132 c0) (atGC (bodyC Tryd.f44) 36 [m0]) (frm 208 [(1, .ref 2 0), (3, .fn 62 1 (L1 [.ref 2 0])), (5, .msl 3 1 0 ((((c.cells.length : Int) + 1)).toNat)), (7, .fn 63 1 (L1 [.ref 2 0])), (14, .it 4), (16, .i x16), (17, .it 5), (18, .ref 6 0)]) (hp_runsW_4 c q pos ln o1 o3 o4) ?_
      refine TrK.lock 3 (0 + ((x16).toNat)) 2 (by kernel_rfl) g0 (by kernel_rfl) (fun gk => (hp_runsW_5 c q pos ln o1 o3 x16 gk o4)) (by kernel_rfl) fun gk => ?_
      obtain ⟨⟨g1, g2, g3⟩, h⟩ := guardSome h
      exact gg sch_runsW [0, 1, 2, 3, 4, 5, 6, 7] (H0.g g1 |>.g g2 |>.g g3 |>.g (Eq.refl (0 + ((x16).toNat)))) (en n (hself _ _ h m0 n hm0 (Nat.le_refl _) gk))
    · cases h
      exact ee sch_runsW [2] [0, 1] (H0.b 132 c0)
   case l5 x8 x59 x73 o1 o3 o3_i o4_0 o4_1 o5 o5_c =>
    have h : runsW_l5 n (runsW_m c q pos ln lost n) c q pos ln lost x8 x59 x73 o1 o3 o3_i o4_0 o4_1 o5 o5_c = some r := h
    intro m0 m1 m2 hm0 hm1 hm2
    intro gk
    have hm0 := Nat.le_of_succ_le hm0
    have hm1 := Nat.le_of_succ_le hm1
    refine rd hm2 fun m2 hm2 => ?_
    unfold runsW_l5 at h
    rcases bifSome h with ⟨c0, h⟩ | ⟨c0, h⟩
    · obtain ⟨⟨g0, g1⟩, h⟩ := guardSome h
      obtain ⟨y1, hy1, h⟩ := bindSome h
      have p := H0.b 74 c0 |>.g g0 |>.g g1 |>.c (em (nextF_ok hy1) [2, 0, 1] (hp_runsW_6 c q pos ln o1 o3 o3_i gk o4_0 o4_1 o5 o5_c)) |>.t
      rcases bifSome h with ⟨c1, h⟩ | ⟨c1, h⟩
      · obtain ⟨y2, hy2, h⟩ := bindSome h
        have p := H0.b 74 c0 |>.g g0 |>.g g1 |>.c (em (nextF_ok hy1) [2, 0, 1] (hp_runsW_6 c q pos ln o1 o3 o3_i gk o4_0 o4_1 o5 o5_c)) |>.b 83 c1 |>.t |>.c (em (kindF_ok hy2) [2, 0, 1] (hp_runsW_7 c q pos ln y1 o3 o3_i gk o4_0 o4_1 o5 o5_c))
        rcases bifSome h with ⟨c2, h⟩ | ⟨c2, h⟩
        · obtain ⟨⟨g2, g3, g4, g5, g6, g7⟩, h⟩ := guardSome h
          exact gg sch_runsW [0, 1, 2, 3, 4, 5, 6] (p.b 89 c2 |>.g s_runsW_24 |>.w 93 g2 |>.g g3 |>.g g4 |>.g g6 |>.g (lkOff_some (g := gk) g5) |>.w 97 g7) (hself _ _ h m0 m1 m2 hm0 hm1 hm2 gk)
        · obtain ⟨g2, h⟩ := guardSome h
          exact gg sch_runsW [0, 1, 2, 3, 4, 5, 6] (p.b 89 c2 |>.w 97 g2) (hself _ _ h m0 m1 m2 hm0 hm1 hm2 gk)
      · obtain ⟨g2, h⟩ := guardSome h
        exact gg sch_runsW [0, 1, 2, 3, 4, 5, 6] (H0.b 74 c0 |>.g g0 |>.g g1 |>.c (em (nextF_ok hy1) [2, 0, 1] (hp_runsW_6 c q pos ln o1 o3 o3_i gk o4_0 o4_1 o5 o5_c)) |>.b 83 c1 |>.t |>.w 97 g2) (hself _ _ h m0 m1 m2 hm0 hm1 hm2 gk)
    · exact gg sch_runsW [0, 1, 2, 3, 5] (H0.b 74 c0) (hself _ _ h m0 m1 hm0 hm1 gk)
   case l6 x16 o1 o3 o3_i o4 o7 =>
    have h : runsW_l6 n (runsW_m c q pos ln lost n) c q pos ln lost x16 o1 o3 o3_i o4 o7 = some r := h
    intro m0 m1 hm0 hm1
    intro gk
    have hm0 := Nat.le_of_succ_le hm0
    refine rd hm1 fun m1 hm1 => ?_
    unfold runsW_l6 at h
    refine gs (stopAt 37 sch_runsW) [0, 1, 2, 3, 4, 5, 6, 7] H0 (atGC (bodyC Tryd.f44) 37 [m0, m1]) (frm 208 [(1, .ref 2 0), (3, .fn 62 1 (L1 [.ref 2 0])), (5, .msl 3 1 0 ((((c.cells.length : Int) + 1)).toNat)), (7, .fn 63 1 (L1 [.ref 2 0])), (14, .it 4), (16, .i x16), (17, .it 5), (18, .ref 6 0), (140, .it 7)]) (hp_runsW_8 c q pos ln o1 o3 o3_i gk o4 o7) ?_
    obtain ⟨g0, h⟩ := guardSome h
    have h := onNext_spec h
    refine TrG.nx (ops := regF Tryd.f44 37) HC.x (by kernel_rfl) (by kernel_rfl) 7 3 o3_i 2 o3 gk o7 none [1, 3, 5, 7, 14, 16, 17, 18, 140, 142] [0, 1, 2, 3, 4, 5, 6] (frm 208 [(1, .ref 2 0), (3, .fn 62 1 (L1 [.ref 2 0])), (5, .msl 3 1 0 ((((c.cells.length : Int) + 1)).toNat)), (7, .fn 63 1 (L1 [.ref 2 0])), (14, .it 4), (16, .i x16), (17, .it 5), (18, .ref 6 0), (142, .bool false)]) (hp_runsW_4 c q pos ln o1 o3 o4) [0, 1, 2, 3, 4, 5, 6, 7] (fun y1 => frm 208 [(1, .ref 2 0), (3, .fn 62 1 (L1 [.ref 2 0])), (5, .msl 3 1 0 ((((c.cells.length : Int) + 1)).toNat)), (7, .fn 63 1 (L1 [.ref 2 0])), (14, .it 4), (16, .i x16), (17, .it 5), (18, .ref 6 0), (140, .it 7), (142, .bool true)]) (fun y1 => (hp_runsW_12 c q pos ln o1 o3 o3_i gk o4 o7 y1)) (by kernel_rfl) (by kernel_rfl) (by kernel_rfl) (by decide) g0 (by kernel_rfl) (by kernel_rfl) (fun _ => by kernel_rfl) (fun he => ?_) (fun y1 he => ?_)
    · replace h := h.1 he
      obtain ⟨g1, h⟩ := guardSome h
      obtain ⟨y2, hy2, h⟩ := bindSome h
      obtain ⟨y3, hy3, h⟩ := bindSome h
      obtain ⟨g2, h⟩ := guardSome h
      exact gg (tg := [([], (tgt_runsW_9 c x16 q pos ln y2 o3 o4)), ([], (tgt_runsW_11 c x16 q pos ln y3 o3 o4))]) sch_runsW [0, 1, 2, 3, 5] (H0.g (by decide : (0 : Int) ≤ 1 ∧ 1 < ((2 : Nat) : Int)) |>.g s_runsW_49 |>.g g1 |>.c (em (loseW_ok hy2) [0, 1] (hp_runsW_4 c q pos ln o1 o3 o4)) |>.g (Eq.refl (tgt_runsW_9 c x16 q pos ln y2 o3 o4)) |>.g (by decide : (0 : Int) ≤ 0 ∧ 0 < ((2 : Nat) : Int)) |>.g s_runsW_51 |>.g g1 |>.c (em (onlyW_ok hy3) [0, 1] (hp_runsW_10 c q pos ln y2 o3 o4)) |>.g (Eq.refl (tgt_runsW_11 c x16 q pos ln y3 o3 o4)) |>.w 134 g2) (hself _ _ h m0 hm0)
    · replace h := h.2 y1 he
      obtain ⟨g1, h⟩ := guardSome h
      exact gg sch_runsW [0, 1, 2, 3, 4, 5, 6, 8, 7, 9] (H0.g g1 |>.g (Eq.refl gk.1) |>.g (Eq.refl gk.2.1) |>.g (Eq.refl gk.2.2) |>.t) (en n (hself _ _ h m0 m1 n hm0 hm1 (Nat.le_refl _) gk))
   case l7 x16 x147 o1 o3 o3_i o4 o5 o6_0 o6_1 o7_0 o7_1 o8 o8_c =>
    have h : runsW_l7 n (runsW_m c q pos ln lost n) c q pos ln lost x16 x147 o1 o3 o3_i o4 o5 o6_0 o6_1 o7_0 o7_1 o8 o8_c = some r := h
    intro m0 m1 m2 hm0 hm1 hm2
    intro gk
    have hm0 := Nat.le_of_succ_le hm0
    have hm1 := Nat.le_of_succ_le hm1
    refine rd hm2 fun m2 hm2 => ?_
    unfold runsW_l7 at h
    rcases bifSome h with ⟨c0, h⟩ | ⟨c0, h⟩
    · obtain ⟨⟨g0, g1⟩, h⟩ := guardSome h
      obtain ⟨y1, hy1, h⟩ := bindSome h
      have p := H0.b 148 c0 |>.g g0 |>.g g1 |>.c (em (nextF_ok hy1) [2, 0, 1] (hp_runsW_13 c q pos ln o1 o3 o3_i gk o4 o5 o6_0 o6_1 o7_0 o7_1 o8 o8_c)) |>.t
      rcases bifSome h with ⟨c1, h⟩ | ⟨c1, h⟩
      · obtain ⟨y2, hy2, h⟩ := bindSome h
        have p := H0.b 148 c0 |>.g g0 |>.g g1 |>.c (em (nextF_ok hy1) [2, 0, 1] (hp_runsW_13 c q pos ln o1 o3 o3_i gk o4 o5 o6_0 o6_1 o7_0 o7_1 o8 o8_c)) |>.b 158 c1 |>.t |>.c (em (kindF_ok hy2) [2, 0, 1] (hp_runsW_14 c q pos ln y1 o3 o3_i gk o4 o5 o6_0 o6_1 o7_0 o7_1 o8 o8_c))
        rcases bifSome h with ⟨c2, h⟩ | ⟨c2, h⟩
        · have p := p.b 164 c2
          rcases bifSome h with ⟨c3, h⟩ | ⟨c3, h⟩
          · have p := p.b 169 c3
            rcases bifSome h with ⟨c4, h⟩ | ⟨c4, h⟩
            · obtain ⟨g2, h⟩ := guardSome h
              exact gg sch_runsW [0, 1, 2, 3, 4, 5, 6, 7, 8, 9] (H0.b 148 c0 |>.o 149 (DLe.int (k := .i64) (eq_of_beq c4)) |>.g g0 |>.g g1 |>.c (em (nextF_ok hy1) [2, 0, 1] (hp_runsW_13 c q pos ln o1 o3 o3_i gk o4 o5 o6_0 o6_1 o7_0 o7_1 o8 o8_c)) |>.b 158 c1 |>.t |>.c (em (kindF_ok hy2) [2, 0, 1] (hp_runsW_14 c q pos ln y1 o3 o3_i gk o4 o5 o6_0 o6_1 o7_0 o7_1 o8 o8_c)) |>.b 164 c2 |>.b 169 c3 |>.g (by decide : (0 : Int) ≤ 0 ∧ 0 < ((2 : Nat) : Int)) |>.t |>.w 175 g2) (hself _ _ h m0 m1 m2 hm0 hm1 hm2 gk)
            · rcases bifSome h with ⟨c6, h⟩ | ⟨c6, h⟩
              · obtain ⟨g2, h⟩ := guardSome h
                exact gg sch_runsW [0, 1, 2, 3, 4, 5, 6, 7, 8, 9] (H0.b 148 c0 |>.o 149 (DLe.int (k := .i64) (eq_of_beq c6)) |>.g g0 |>.g g1 |>.c (em (nextF_ok hy1) [2, 0, 1] (hp_runsW_13 c q pos ln o1 o3 o3_i gk o4 o5 o6_0 o6_1 o7_0 o7_1 o8 o8_c)) |>.b 158 c1 |>.t |>.c (em (kindF_ok hy2) [2, 0, 1] (hp_runsW_14 c q pos ln y1 o3 o3_i gk o4 o5 o6_0 o6_1 o7_0 o7_1 o8 o8_c)) |>.b 164 c2 |>.b 169 c3 |>.g (by decide : (0 : Int) ≤ 1 ∧ 1 < ((2 : Nat) : Int)) |>.t |>.w 175 g2) (hself _ _ h m0 m1 m2 hm0 hm1 hm2 gk)
              · cases h
          · obtain ⟨g2, h⟩ := guardSome h
            exact gg sch_runsW [0, 1, 2, 3, 4, 5, 6, 7, 8, 9] (p.b 169 c3 |>.w 175 g2) (hself _ _ h m0 m1 m2 hm0 hm1 hm2 gk)
        · obtain ⟨g2, h⟩ := guardSome h
          exact gg sch_runsW [0, 1, 2, 3, 4, 5, 6, 7, 8, 9] (p.b 164 c2 |>.w 175 g2) (hself _ _ h m0 m1 m2 hm0 hm1 hm2 gk)
      · obtain ⟨g2, h⟩ := guardSome h
        exact gg sch_runsW [0, 1, 2, 3, 4, 5, 6, 7, 8, 9] (H0.b 148 c0 |>.g g0 |>.g g1 |>.c (em (nextF_ok hy1) [2, 0, 1] (hp_runsW_13 c q pos ln o1 o3 o3_i gk o4 o5 o6_0 o6_1 o7_0 o7_1 o8 o8_c)) |>.b 158 c1 |>.t |>.w 175 g2) (hself _ _ h m0 m1 m2 hm0 hm1 hm2 gk)
    · exact gg sch_runsW [0, 1, 2, 3, 4, 5, 6, 8] (H0.b 148 c0) (hself _ _ h m0 m1 hm0 hm1 gk)
   case l8 x8 x59 o1 o3 o3_i o4 o4_c =>
    have h : runsW_l8 n (runsW_m c q pos ln lost n) c q pos ln lost x8 x59 o1 o3 o3_i o4 o4_c = some r := h
    intro m0 m1 hm0 hm1
    intro gk
    have hm0 := Nat.le_of_succ_le hm0
    refine rd hm1 fun m1 hm1 => ?_
    unfold runsW_l8 at h
    refine gs (stopAt 17 sch_runsW) [0, 1, 2, 3, 4] H0 (atGC (bodyC Tryd.f44) 17 [m0, m1]) (frm 208 [(1, .ref 2 0), (3, .fn 62 1 (L1 [.ref 2 0])), (4, .i (c.cells.length : Int)), (5, .msl 3 1 0 ((((c.cells.length : Int) + 1)).toNat)), (7, .fn 63 1 (L1 [.ref 2 0])), (8, .i x8), (58, .i (c.cells.length : Int)), (59, .i x59), (66, .it 4)]) (hp_runsW_15 c q pos ln o1 o3 o3_i gk o4 o4_c) ?_
    obtain ⟨g0, h⟩ := guardSome h
    have h := onNext_spec h
    refine TrG.nx (ops := regF Tryd.f44 17) HC.x (by kernel_rfl) (by kernel_rfl) 4 3 o3_i 2 o3 gk o4 (some o4_c) [1, 3, 4, 5, 7, 8, 58, 59, 66, 68] [0, 1, 2, 3] (frm 208 [(1, .ref 2 0), (3, .fn 62 1 (L1 [.ref 2 0])), (4, .i (c.cells.length : Int)), (5, .msl 3 1 0 ((((c.cells.length : Int) + 1)).toNat)), (7, .fn 63 1 (L1 [.ref 2 0])), (8, .i x8), (58, .i (c.cells.length : Int)), (59, .i x59), (68, .bool false)]) (hp_runsW_0 c q pos ln o1 o3) [0, 1, 2, 3, 4] (fun y1 => frm 208 [(1, .ref 2 0), (3, .fn 62 1 (L1 [.ref 2 0])), (4, .i (c.cells.length : Int)), (5, .msl 3 1 0 ((((c.cells.length : Int) + 1)).toNat)), (7, .fn 63 1 (L1 [.ref 2 0])), (8, .i x8), (58, .i (c.cells.length : Int)), (59, .i x59), (66, .it 4), (68, .bool true)]) (fun y1 => (hp_runsW_3 c q pos ln o1 o3 o3_i gk o4 y1)) (by kernel_rfl) (by kernel_rfl) (by kernel_rfl) (by decide) g0 (by kernel_rfl) (by kernel_rfl) (fun _ => by kernel_rfl) (fun he => ?_) (fun y1 he => ?_)
    · replace h := h.1 he
      obtain ⟨g1, h⟩ := guardSome h
      exact gg sch_runsW [0, 1, 2, 3] (H0.w 98 g1) (hself _ _ h m0 hm0)
    · replace h := h.2 y1 he
      obtain ⟨g1, h⟩ := guardSome h
      exact gg sch_runsW [0, 1, 2, 3, 5, 4, 6] (H0.g g1 |>.g (Eq.refl gk.1) |>.g (Eq.refl gk.2.1) |>.g (Eq.refl gk.2.2) |>.t) (en n (hself _ _ h m0 m1 n hm0 hm1 (Nat.le_refl _) gk))
   case l9 x16 o1 o3 o3_i o4 o5 o6_0 o6_1 o7 o7_c =>
    have h : runsW_l9 n (runsW_m c q pos ln lost n) c q pos ln lost x16 o1 o3 o3_i o4 o5 o6_0 o6_1 o7 o7_c = some r := h
    intro m0 m1 hm0 hm1
    intro gk
    have hm0 := Nat.le_of_succ_le hm0
    refine rd hm1 fun m1 hm1 => ?_
    unfold runsW_l9 at h
    refine gs (stopAt 37 sch_runsW) [0, 1, 2, 3, 4, 5, 6, 7] H0 (atGC (bodyC Tryd.f44) 37 [m0, m1]) (frm 208 [(1, .ref 2 0), (3, .fn 62 1 (L1 [.ref 2 0])), (5, .msl 3 1 0 ((((c.cells.length : Int) + 1)).toNat)), (7, .fn 63 1 (L1 [.ref 2 0])), (14, .it 4), (16, .i x16), (17, .it 5), (18, .ref 6 0), (140, .it 7)]) (hp_runsW_16 c q pos ln o1 o3 o3_i gk o4 o5 o6_0 o6_1 o7 o7_c) ?_
    obtain ⟨g0, h⟩ := guardSome h
    have h := onNext_spec h
    refine TrG.nx (ops := regF Tryd.f44 37) HC.x (by kernel_rfl) (by kernel_rfl) 7 3 o3_i 2 o3 gk o7 (some o7_c) [1, 3, 5, 7, 14, 16, 17, 18, 140, 142] [0, 1, 2, 3, 4, 5, 6] (frm 208 [(1, .ref 2 0), (3, .fn 62 1 (L1 [.ref 2 0])), (5, .msl 3 1 0 ((((c.cells.length : Int) + 1)).toNat)), (7, .fn 63 1 (L1 [.ref 2 0])), (14, .it 4), (16, .i x16), (17, .it 5), (18, .ref 6 0), (142, .bool false)]) (hp_runsW_17 c q pos ln o1 o3 o4 o5 o6_0 o6_1) [0, 1, 2, 3, 4, 5, 6, 7] (fun y1 => frm 208 [(1, .ref 2 0), (3, .fn 62 1 (L1 [.ref 2 0])), (5, .msl 3 1 0 ((((c.cells.length : Int) + 1)).toNat)), (7, .fn 63 1 (L1 [.ref 2 0])), (14, .it 4), (16, .i x16), (17, .it 5), (18, .ref 6 0), (140, .it 7), (142, .bool true)]) (fun y1 => (hp_runsW_22 c q pos ln o1 o3 o3_i gk o4 o5 o6_0 o6_1 o7 y1)) (by kernel_rfl) (by kernel_rfl) (by kernel_rfl) (by decide) g0 (by kernel_rfl) (by kernel_rfl) (fun _ => by kernel_rfl) (fun he => ?_) (fun y1 he => ?_)
    · replace h := h.1 he
      have p := H0.g (by decide : (0 : Int) ≤ 1 ∧ 1 < ((2 : Nat) : Int))
      rcases bifSome h with ⟨c0, h⟩ | ⟨c0, h⟩
      · obtain ⟨g1, h⟩ := guardSome h
        obtain ⟨y2, hy2, h⟩ := bindSome h
        have p := p.b 179 c0 |>.g s_runsW_49 |>.g g1 |>.c (em (loseW_ok hy2) [0, 1] (hp_runsW_17 c q pos ln o1 o3 o4 o5 o6_0 o6_1)) |>.g (Eq.refl (tgt_runsW_18 c x16 q pos ln y2 o3 o4 o5 o6_0 o6_1)) |>.g (by decide : (0 : Int) ≤ 0 ∧ 0 < ((2 : Nat) : Int))
        rcases bifSome h with ⟨c1, h⟩ | ⟨c1, h⟩
        · obtain ⟨y3, hy3, h⟩ := bindSome h
          obtain ⟨g2, h⟩ := guardSome h
          exact gg (tg := [([], (tgt_runsW_18 c x16 q pos ln y2 o3 o4 o5 o6_0 o6_1)), ([], (tgt_runsW_20 c x16 q pos ln y3 o3 o4 o5 o6_0 o6_1))]) sch_runsW [0, 1, 2, 3, 5] (p.b 197 c1 |>.g s_runsW_51 |>.g g1 |>.c (em (onlyW_ok hy3) [0, 1] (hp_runsW_19 c q pos ln y2 o3 o4 o5 o6_0 o6_1)) |>.g (Eq.refl (tgt_runsW_20 c x16 q pos ln y3 o3 o4 o5 o6_0 o6_1)) |>.w 134 g2) (hself _ _ h m0 hm0)
        · obtain ⟨g2, h⟩ := guardSome h
          exact gg (tg := [([], (tgt_runsW_18 c x16 q pos ln y2 o3 o4 o5 o6_0 o6_1))]) sch_runsW [0, 1, 2, 3, 5] (p.b 197 c1 |>.w 134 g2) (hself _ _ h m0 hm0)
      · have p := p.b 179 c0 |>.g (by decide : (0 : Int) ≤ 0 ∧ 0 < ((2 : Nat) : Int))
        rcases bifSome h with ⟨c1, h⟩ | ⟨c1, h⟩
        · obtain ⟨g1, h⟩ := guardSome h
          obtain ⟨y2, hy2, h⟩ := bindSome h
          obtain ⟨g2, h⟩ := guardSome h
          exact gg (tg := [([], (tgt_runsW_21 c x16 q pos ln y2 o3 o4 o5 o6_0 o6_1))]) sch_runsW [0, 1, 2, 3, 5] (p.b 197 c1 |>.g s_runsW_51 |>.g g1 |>.c (em (onlyW_ok hy2) [0, 1] (hp_runsW_17 c q pos ln o1 o3 o4 o5 o6_0 o6_1)) |>.g (Eq.refl (tgt_runsW_21 c x16 q pos ln y2 o3 o4 o5 o6_0 o6_1)) |>.w 134 g2) (hself _ _ h m0 hm0)
        · obtain ⟨g1, h⟩ := guardSome h
          exact gg sch_runsW [0, 1, 2, 3, 5] (p.b 197 c1 |>.w 134 g1) (hself _ _ h m0 hm0)
    · replace h := h.2 y1 he
      obtain ⟨g1, h⟩ := guardSome h
      exact gg sch_runsW [0, 1, 2, 3, 4, 5, 6, 8, 7, 9] (H0.g g1 |>.g (Eq.refl gk.1) |>.g (Eq.refl gk.2.1) |>.g (Eq.refl gk.2.2) |>.t) (en n (hself _ _ h m0 m1 n hm0 hm1 (Nat.le_refl _) gk))
theorem runsW_ok {n : Nat} {c : ConsD} {q : ProbD} {pos : List Int} {ln : Nat} {lost : List Int} {r : Bool × (List Int)} (h : runsW n c q pos ln lost = some r) : ES Tryd.prog GG 44 [.ref 0 0] [some (.cells (consC c ++ probC q ++ [.ints pos, .msl 1 1 0 ln])), some (.ints lost)] (.bool r.1) [some (.cells (consC c ++ probC q ++ [.ints pos, .msl 1 1 0 ln])), some (.ints r.2)] false := by
  refine ot Tryd.func44 fun B N => ?_
  have hself := runsW_all B N c q pos ln lost n
  unfold runsW at h
  unfold runsW_l0 at h
  rcases bifSome h with ⟨c0, h⟩ | ⟨c0, h⟩
  · cases h
    exact ee sch_runsW [2] [0, 1] (H0.b 32 c0)
  · obtain ⟨⟨g0, g1⟩, h⟩ := guardSome h
    exact gg sch_runsW [0, 1, 2, 3] (H0.b 32 c0 |>.w 41 g0 |>.g g1) (en n (hself _ _ h n (Nat.le_refl _)))
end Go.Proofs.YtekkngkphejfcaaDoor
namespace Go.Proofs.YtekkngkphejfcaaDoor
open Go.RowKit
section
variable {c : ConsD} {k : Nat} {pos lost : List Int} {q : ProbD}
/-- Two lists that lost for the same reasons are the same. -/
theorem LostBy.unique {i : Nat} {D : Nat → Nat → Prop} {l l' : List Int} (h : LostBy c pos lost i D l) (h' : LostBy c pos lost i D l') (hi : ∀ j, In64 (l.getD j 0)) (hi' : ∀ j, In64 (l'.getD j 0)) : l = l' := by
  have e : l.length = l'.length := h.1.trans h'.1.symm
  refine List.ext_getElem e fun j h1 h2 => ?_
  have e1 : l.getD j 0 = l[j] := by simp [h1]
  have e2 : l'.getD j 0 = l'[j] := by simp [h2]
  rw [← e1, ← e2]
  refine tb_ext (hi j) (hi' j) fun s _ => ?_
  rw [Bool.eq_iff_iff, h.2, h'.2]
theorem set_in {l : List Int} {i : Nat} {x : Int} (h : ∀ j, In64 (l.getD j 0)) (hx : In64 x) : ∀ j, In64 ((l.set i x).getD j 0) := by
  intro j
  by_cases e : i = j
  · subst e
    by_cases h2 : i < l.length
    · rw [getD_set_self h2]; exact hx
    · rw [List.set_eq_of_length_le (by omega)]; exact h i
  · rw [getD_set_ne e]; exact h j
theorem lose_in {n ln : Nat} {cell ss : Int} {l' : List Int} (h : loseW n cell ss c q pos ln lost = some l') (hi : ∀ j, In64 (lost.getD j 0)) : ∀ j, In64 (l'.getD j 0) := by
  unfold loseW loseW_l0 at h
  split at h
  · cases h; exact set_in hi (bits_in _ _ _)
  · cases h
theorem only_in {n ln : Nat} {cell : Int} {l' : List Int} (h : onlyW n cell c q pos ln lost = some l') (hi : ∀ j, In64 (lost.getD j 0)) : ∀ j, In64 (l'.getD j 0) := by
  unfold onlyW onlyW_l0 at h
  split at h
  · cases h; exact set_in hi (bits_in _ _ _)
  · cases h
/-- The runs are not long. -/
def RunsOk (c : ConsD) : Prop := c.runs.length ≤ 256 ∧ ∀ j, j < c.runs.length → c.runs.getD j 0 ≤ 256
/-- A state: so many runs complete, so long a run open. -/
structure StOk (c : ConsD) (d l : Int) : Prop where
  d0 : 0 ≤ d
  d1 : d ≤ (c.runs.length : Int)
  l0 : 0 ≤ l
  open' : 0 < l → d < (c.runs.length : Int) ∧ l ≤ c.runs.getD d.toNat 0
def nx (c : ConsD) (d l : Int) (inn : Bool) : Option (Int × Int) :=
  bif inn then (if d < (c.runs.length : Int) ∧ l < c.runs.getD d.toNat 0 then some (d, l + 1) else none)
  else (if l = 0 then some (d, 0) else if l = c.runs.getD d.toNat 0 then some (d + 1, 0) else none)
theorem nx_ok {d l : Int} {inn : Bool} {t : Int × Int} (h : StOk c d l) (e : nx c d l inn = some t) : StOk c t.1 t.2 := by
  obtain ⟨h1, h2, h3, h4⟩ := h
  unfold nx at e
  cases inn
  · rw [cond_false] at e
    split at e
    · cases e; exact ⟨h1, h2, Int.le_refl _, fun h => absurd h (Int.lt_irrefl _)⟩
    · split at e
      · cases e
        have := h4 (by omega)
        exact ⟨by show 0 ≤ d + 1; omega, by show d + 1 ≤ _; omega, Int.le_refl _, fun h => absurd h (Int.lt_irrefl _)⟩
      · cases e
  · rw [cond_true] at e
    split at e
    · rename_i h5
      cases e
      exact ⟨h1, h2, by show 0 ≤ l + 1; omega, fun _ => ⟨h5.1, by show l + 1 ≤ c.runs.getD d.toNat 0; omega⟩⟩
    · cases e
theorem next_eq {n ln : Nat} {d l : Int} {inn : Bool} (R : RunsOk c) (h : StOk c d l) : ∃ t, nextF n (d, l) inn c q pos ln lost = some (t, (nx c d l inn).isSome, lost) ∧ ∀ u, nx c d l inn = some u → t = u := by
  obtain ⟨h1, h2, h3, h4⟩ := h
  obtain ⟨hr, hv⟩ := R
  have hl : l ≤ 256 := by
    by_cases h0 : 0 < l
    · obtain ⟨a1, a2⟩ := h4 h0
      have := hv d.toNat (by omega)
      omega
    · omega
  unfold nextF nextF_l0 nx
  cases inn
  · rw [cond_false, cond_false]
    by_cases h0 : l = 0
    · subst h0
      refine ⟨(d, 0), by simp, fun u hu => by simpa using hu⟩
    · obtain ⟨a1, a2⟩ := h4 (by omega)
      have e0 : (l == 0) = false := by simpa using h0
      simp only [e0, cond_false, if_neg h0]
      rw [if_pos ⟨R64_iff.2 ⟨by omega, by omega⟩, h1, a1⟩]
      refine ⟨(d + 1, 0), ?_, fun u hu => ?_⟩
      · by_cases h5 : l = c.runs.getD d.toNat 0
        · rw [if_pos h5, ← h5]; simp
        · rw [if_neg h5]; simpa using h5
      · split at hu
        · cases hu; rfl
        · cases hu
  · rw [cond_true, cond_true, if_pos (R64_iff.2 ⟨by show _ ≤ l + 1; omega, by show l + 1 ≤ _; omega⟩)]
    by_cases h5 : d < (c.runs.length : Int)
    · simp only [decide_eq_true h5, cond_true]
      rw [if_pos ⟨h1, h5⟩]
      refine ⟨(d, l + 1), ?_, fun u hu => ?_⟩
      · by_cases h6 : l < c.runs.getD d.toNat 0
        · rw [if_pos ⟨h5, h6⟩, decide_eq_true h6]; rfl
        · rw [if_neg fun h => h6 h.2, decide_eq_false h6]; rfl
      · split at hu
        · cases hu; rfl
        · cases hu
    · simp only [decide_eq_false h5, cond_false]
      refine ⟨(d, l + 1), ?_, fun u hu => ?_⟩
      · rw [if_neg fun h => h5 h.1]; rfl
      · rw [if_neg fun h => h5 h.1] at hu; cases hu
/-- The cell can be in the set, can be outside. -/
def kd (c : ConsD) (pos : List Int) (i : Nat) (inn : Bool) : Bool := bif inn then (bits .and .i64 (setAt c pos i) c.set != 0) else (bits .andNot .i64 (setAt c pos i) c.set != 0)
theorem kind_eq {n : Nat} {i : Nat} {inn : Bool} (W : Work c k pos) (hi : i < c.cells.length) : kindF n (i : Int) inn c q pos pos.length lost = some (kd c pos i inn, lost) := by
  have hc := W.cells i hi
  unfold kindF kindF_l0 kd
  simp only [Int.toNat_natCast]
  cases inn
  · rw [cond_false, if_pos ⟨⟨by omega, by omega⟩, hc⟩]; rfl
  · rw [cond_true, if_pos ⟨⟨by omega, by omega⟩, hc⟩]; rfl
/-- The states that can be reached before a cell. -/
def Rch (c : ConsD) (pos : List Int) : Nat → Int × Int → Prop
  | 0, t => t = (0, 0)
  | i + 1, t => ∃ s inn, Rch c pos i s ∧ nx c s.1 s.2 inn = some t ∧ kd c pos i inn = true
theorem Rch.ok (i : Nat) : ∀ {t : Int × Int}, Rch c pos i t → StOk c t.1 t.2 := by
  induction i with
  | zero =>
    intro t h
    obtain rfl : t = (0, 0) := h
    exact ⟨Int.le_refl _, by show (0 : Int) ≤ _; omega, Int.le_refl _, fun h => absurd h (Int.lt_irrefl _)⟩
  | succ i ih =>
    rintro t ⟨s, inn, h1, h2, _⟩
    exact nx_ok (ih h1) h2
def EndS (c : ConsD) (t : Int × Int) : Prop := t = ((c.runs.length : Int), 0) ∨ (0 < c.runs.length ∧ t = ((c.runs.length : Int) - 1, c.runs.getD (c.runs.length - 1) 0))
/-- The states from which the end can be reached: m cells before it. -/
def Liv (c : ConsD) (pos : List Int) : Nat → Int × Int → Prop
  | 0, t => EndS c t
  | m + 1, s => Rch c pos (c.cells.length - 1 - m) s ∧ ∃ t inn, nx c s.1 s.2 inn = some t ∧ kd c pos (c.cells.length - 1 - m) inn = true ∧ Liv c pos m t
/-- Whether a cell can be in the set (outside), with the runs as they are asked for. -/
def can (c : ConsD) (pos : List Int) (i : Nat) (inn : Bool) : Prop := ∃ s t, Rch c pos i s ∧ nx c s.1 s.2 inn = some t ∧ kd c pos i inn = true ∧ Liv c pos (c.cells.length - 1 - i) t
def runsD (c : ConsD) (pos : List Int) (a s : Nat) : Prop := (¬ can c pos a true ∧ tb c.set s = true) ∨ (¬ can c pos a false ∧ tb c.set s = false)
/-- A state's step into a state from which the end can be reached. -/
def okB (c : ConsD) (pos : List Int) (i : Nat) (o4 : KS) (d l : Int) (inn : Bool) : Bool := match nx c d l inn with
  | some t => kd c pos i inn && o4.contains [t.1, t.2]
  | none => false
theorem l7_0 {n i oi : Nat} {o1 : List Int} {o3 : List (Option KS)} {o4 o5 o8 : KS} {b0 b1 : Bool} {d l : Int} {o8c : List Int} (W : Work c k pos) (R : RunsOk c) (hi : i < c.cells.length) (h : StOk c d l) :
    runsW_m c q pos pos.length lost (n + 1) (.l7 i 0 o1 o3 oi o4 o5 b0 b1 d l o8 o8c) = runsW_m c q pos pos.length lost n (.l7 i 1 o1 o3 oi o4 (bif okB c pos i o4 d l false then putK [d, l] o5 else o5) (b0 || okB c pos i o4 d l false) b1 d l o8 o8c) := by
  obtain ⟨t, e1, e2⟩ := next_eq (n := n) (ln := pos.length) (pos := pos) (lost := o1) (q := q) (inn := false) R h
  have b : ([false, true] : List Bool).getD (0 + ((0 : Int)).toNat) false = false := rfl
  have r : R64 ((0 : Int) + 1) := R64_iff.2 ⟨by decide, by decide⟩
  show runsW_l7 n (runsW_m c q pos pos.length lost n) c q pos pos.length lost i 0 o1 o3 oi o4 o5 b0 b1 d l o8 o8c = _
  unfold runsW_l7 okB
  rw [decide_eq_true (by decide), cond_true, if_pos ⟨⟨by decide, by decide⟩, by decide⟩, b, e1, Option.bind_some]
  cases hn : nx c d l false with
  | none => simp only [Option.isSome_none, cond_false, if_pos r, Bool.or_false]; rfl
  | some u =>
    obtain rfl := e2 u hn
    simp only [Option.isSome_some, cond_true]
    rw [kind_eq W hi, Option.bind_some]
    cases hk : kd c pos i false
    · simp only [cond_false, if_pos r, Bool.false_and, Bool.or_false]; rfl
    · simp only [cond_true, Bool.true_and]
      cases hc : o4.contains [t.1, t.2]
      · simp only [cond_false, if_pos r, Bool.or_false]; rfl
      · have z : ((0 : Int) == 0) = true := rfl
        simp only [cond_true, z, if_pos r, Bool.or_true]; rfl
theorem l7_1 {n i oi : Nat} {o1 : List Int} {o3 : List (Option KS)} {o4 o5 o8 : KS} {b0 b1 : Bool} {d l : Int} {o8c : List Int} (W : Work c k pos) (R : RunsOk c) (hi : i < c.cells.length) (h : StOk c d l) :
    runsW_m c q pos pos.length lost (n + 1) (.l7 i 1 o1 o3 oi o4 o5 b0 b1 d l o8 o8c) = runsW_m c q pos pos.length lost n (.l7 i 2 o1 o3 oi o4 (bif okB c pos i o4 d l true then putK [d, l] o5 else o5) b0 (b1 || okB c pos i o4 d l true) d l o8 o8c) := by
  obtain ⟨t, e1, e2⟩ := next_eq (n := n) (ln := pos.length) (pos := pos) (lost := o1) (q := q) (inn := true) R h
  have b : ([false, true] : List Bool).getD (0 + ((1 : Int)).toNat) false = true := rfl
  have r : R64 ((1 : Int) + 1) := R64_iff.2 ⟨by decide, by decide⟩
  show runsW_l7 n (runsW_m c q pos pos.length lost n) c q pos pos.length lost i 1 o1 o3 oi o4 o5 b0 b1 d l o8 o8c = _
  unfold runsW_l7 okB
  rw [decide_eq_true (by decide), cond_true, if_pos ⟨⟨by decide, by decide⟩, by decide⟩, b, e1, Option.bind_some]
  cases hn : nx c d l true with
  | none => simp only [Option.isSome_none, cond_false, if_pos r, Bool.or_false]; rfl
  | some u =>
    obtain rfl := e2 u hn
    simp only [Option.isSome_some, cond_true]
    rw [kind_eq W hi, Option.bind_some]
    cases hk : kd c pos i true
    · simp only [cond_false, if_pos r, Bool.false_and, Bool.or_false]; rfl
    · simp only [cond_true, Bool.true_and]
      cases hc : o4.contains [t.1, t.2]
      · simp only [cond_false, if_pos r, Bool.or_false]; rfl
      · have z : ((1 : Int) == 0) = false := rfl
        have z1 : ((1 : Int) == 1) = true := rfl
        simp only [cond_true, cond_false, z, z1, if_pos r, Bool.or_true]; rfl
theorem l7_2 {n i oi : Nat} {o1 : List Int} {o3 : List (Option KS)} {o4 o5 o8 : KS} {b0 b1 : Bool} {d l : Int} {o8c : List Int} :
    runsW_m c q pos pos.length lost (n + 1) (.l7 i 2 o1 o3 oi o4 o5 b0 b1 d l o8 o8c) = runsW_m c q pos pos.length lost n (.l9 i o1 o3 oi o4 o5 b0 b1 o8 o8c) := by
  show runsW_l7 n (runsW_m c q pos pos.length lost n) c q pos pos.length lost i 2 o1 o3 oi o4 o5 b0 b1 d l o8 o8c = _
  unfold runsW_l7
  rw [decide_eq_false (by decide), cond_false]
/-- One round of the first loop: where a state's step leads is put into the next row. -/
def putA (c : ConsD) (pos : List Int) (i : Nat) (o3 : List (Option KS)) (d l : Int) (inn : Bool) : List (Option KS) := match nx c d l inn with
  | some t => bif kd c pos i inn then o3.set (i + 1) (some (putK [t.1, t.2] ((o3.getD (i + 1) none).getD []))) else o3
  | none => o3
theorem l5_0 {n i : Nat} {o1 : List Int} {o3 : List (Option KS)} {o5 : KS} {d l : Int} {o5c : List Int} {x59 : Int} (W : Work c k pos) (R : RunsOk c) (hi : i < c.cells.length) (h : StOk c d l) (h3 : i + 1 < o3.length) (hs : (o3.getD (i + 1) none).isSome = true) :
    runsW_m c q pos pos.length lost (n + 1) (.l5 i x59 0 o1 o3 i d l o5 o5c) = runsW_m c q pos pos.length lost n (.l5 i x59 1 o1 (putA c pos i o3 d l false) i d l o5 o5c) := by
  obtain ⟨t, e1, e2⟩ := next_eq (n := n) (ln := pos.length) (pos := pos) (lost := o1) (q := q) (inn := false) R h
  have b : ([false, true] : List Bool).getD (0 + ((0 : Int)).toNat) false = false := rfl
  have r : R64 ((0 : Int) + 1) := R64_iff.2 ⟨by decide, by decide⟩
  have hlen := W.len
  have t1 : ((((c.cells.length : Nat) : Int) + 1).toNat : Nat) = c.cells.length + 1 := by omega
  have t2 : 0 + (((i : Int) + 1).toNat : Nat) = i + 1 := by omega
  show runsW_l5 n (runsW_m c q pos pos.length lost n) c q pos pos.length lost i x59 0 o1 o3 i d l o5 o5c = _
  unfold runsW_l5 putA
  rw [decide_eq_true (by decide), cond_true, if_pos ⟨⟨by decide, by decide⟩, by decide⟩, b, e1, Option.bind_some]
  cases hn : nx c d l false with
  | none => simp only [Option.isSome_none, cond_false, if_pos r]; rfl
  | some u =>
    obtain rfl := e2 u hn
    simp only [Option.isSome_some, cond_true]
    rw [kind_eq W hi, Option.bind_some]
    cases hk : kd c pos i false
    · simp only [cond_false, if_pos r]; rfl
    · simp only [cond_true, t1, t2]
      rw [if_pos ⟨R64_iff.2 ⟨by omega, by omega⟩, ⟨by omega, by omega⟩, h3, by omega, hs, r⟩]; rfl
theorem l5_1 {n i : Nat} {o1 : List Int} {o3 : List (Option KS)} {o5 : KS} {d l : Int} {o5c : List Int} {x59 : Int} (W : Work c k pos) (R : RunsOk c) (hi : i < c.cells.length) (h : StOk c d l) (h3 : i + 1 < o3.length) (hs : (o3.getD (i + 1) none).isSome = true) :
    runsW_m c q pos pos.length lost (n + 1) (.l5 i x59 1 o1 o3 i d l o5 o5c) = runsW_m c q pos pos.length lost n (.l5 i x59 2 o1 (putA c pos i o3 d l true) i d l o5 o5c) := by
  obtain ⟨t, e1, e2⟩ := next_eq (n := n) (ln := pos.length) (pos := pos) (lost := o1) (q := q) (inn := true) R h
  have b : ([false, true] : List Bool).getD (0 + ((1 : Int)).toNat) false = true := rfl
  have r : R64 ((1 : Int) + 1) := R64_iff.2 ⟨by decide, by decide⟩
  have hlen := W.len
  have t1 : ((((c.cells.length : Nat) : Int) + 1).toNat : Nat) = c.cells.length + 1 := by omega
  have t2 : 0 + (((i : Int) + 1).toNat : Nat) = i + 1 := by omega
  show runsW_l5 n (runsW_m c q pos pos.length lost n) c q pos pos.length lost i x59 1 o1 o3 i d l o5 o5c = _
  unfold runsW_l5 putA
  rw [decide_eq_true (by decide), cond_true, if_pos ⟨⟨by decide, by decide⟩, by decide⟩, b, e1, Option.bind_some]
  cases hn : nx c d l true with
  | none => simp only [Option.isSome_none, cond_false, if_pos r]; rfl
  | some u =>
    obtain rfl := e2 u hn
    simp only [Option.isSome_some, cond_true]
    rw [kind_eq W hi, Option.bind_some]
    cases hk : kd c pos i true
    · simp only [cond_false, if_pos r]; rfl
    · simp only [cond_true, t1, t2]
      rw [if_pos ⟨R64_iff.2 ⟨by omega, by omega⟩, ⟨by omega, by omega⟩, h3, by omega, hs, r⟩]; rfl
theorem l5_2 {n i : Nat} {o1 : List Int} {o3 : List (Option KS)} {o5 : KS} {d l : Int} {o5c : List Int} {x59 : Int} :
    runsW_m c q pos pos.length lost (n + 1) (.l5 i x59 2 o1 o3 i d l o5 o5c) = runsW_m c q pos pos.length lost n (.l8 i x59 o1 o3 i o5 o5c) := by
  show runsW_l5 n (runsW_m c q pos pos.length lost n) c q pos pos.length lost i x59 2 o1 o3 i d l o5 o5c = _
  unfold runsW_l5
  rw [decide_eq_false (by decide), cond_false]
/-- The row of states before a cell. -/
def rowK (o3 : List (Option KS)) (j : Nat) : KS := (o3.getD j none).getD []
theorem putA_len {i : Nat} {o3 : List (Option KS)} {d l : Int} {inn : Bool} : (putA c pos i o3 d l inn).length = o3.length := by
  unfold putA
  split
  · cases kd c pos i inn
    · rfl
    · rw [cond_true, List.length_set]
  · rfl
theorem getD_set_self' {α : Type} {l : List α} {i : Nat} {x y : α} (h : i < l.length) : (l.set i x).getD i y = x := by
  rw [List.getD_eq_getElem?_getD, List.getElem?_set_self h]; rfl
theorem getD_set_ne' {α : Type} {l : List α} {i j : Nat} {x y : α} (h : i ≠ j) : (l.set i x).getD j y = l.getD j y := by
  rw [List.getD_eq_getElem?_getD, List.getElem?_set_ne h, ← List.getD_eq_getElem?_getD]
theorem putA_ne {i j : Nat} {o3 : List (Option KS)} {d l : Int} {inn : Bool} (h : j ≠ i + 1) : (putA c pos i o3 d l inn).getD j none = o3.getD j none := by
  unfold putA
  split
  · cases kd c pos i inn
    · rfl
    · rw [cond_true, getD_set_ne' (fun e => h e.symm)]
  · rfl
theorem putA_isSome {i : Nat} {o3 : List (Option KS)} {d l : Int} {inn : Bool} (hl : i + 1 < o3.length) {j : Nat} (h : (o3.getD j none).isSome = true) : ((putA c pos i o3 d l inn).getD j none).isSome = true := by
  by_cases e : j = i + 1
  · subst e
    unfold putA
    split
    · cases kd c pos i inn
      · exact h
      · rw [cond_true, getD_set_self' hl]; rfl
    · exact h
  · rw [putA_ne e]; exact h
theorem mem_putA {i : Nat} {o3 : List (Option KS)} {d l : Int} {inn : Bool} (hl : i + 1 < o3.length) {x : List Int} : x ∈ rowK (putA c pos i o3 d l inn) (i + 1) ↔ x ∈ rowK o3 (i + 1) ∨ ∃ t, nx c d l inn = some t ∧ kd c pos i inn = true ∧ x = [t.1, t.2] := by
  unfold putA
  split
  · rename_i t ht
    cases hk : kd c pos i inn
    · rw [cond_false]
      exact ⟨.inl, fun h => h.elim id fun ⟨_, _, h, _⟩ => by cases h⟩
    · rw [cond_true]
      unfold rowK
      rw [getD_set_self' hl]
      show x ∈ putK _ _ ↔ _
      rw [mem_putK]
      constructor
      · rintro (h | h)
        · exact .inr ⟨t, ht, rfl, h⟩
        · exact .inl h
      · rintro (h | ⟨u, hu, _, h⟩)
        · exact .inr h
        · rw [ht] at hu; cases hu; exact .inl h
  · rename_i hn
    exact ⟨.inl, fun h => h.elim id fun ⟨_, h, _⟩ => by rw [hn] at h; cases h⟩
/-- The rows up to a cell are filled. -/
structure Rows (c : ConsD) (pos : List Int) (i : Nat) (o3 : List (Option KS)) : Prop where
  len : o3.length = c.cells.length + 1
  isSome : ∀ j, j ≤ c.cells.length → (o3.getD j none).isSome = true
  row : ∀ j, j ≤ i → ∀ x, x ∈ rowK o3 j ↔ ∃ t : Int × Int, x = [t.1, t.2] ∧ Rch c pos j t
  rest : ∀ j, i < j → j ≤ c.cells.length → rowK o3 j = []
/-- The row behind a cell is being filled. -/
structure Mid (c : ConsD) (pos : List Int) (i : Nat) (rem : KS) (o3 : List (Option KS)) : Prop where
  hi : i < c.cells.length
  len : o3.length = c.cells.length + 1
  isSome : ∀ j, j ≤ c.cells.length → (o3.getD j none).isSome = true
  row : ∀ j, j ≤ i → ∀ x, x ∈ rowK o3 j ↔ ∃ t : Int × Int, x = [t.1, t.2] ∧ Rch c pos j t
  rest : ∀ j, i + 1 < j → j ≤ c.cells.length → rowK o3 j = []
  sub : ∀ x ∈ rem, ∃ t : Int × Int, x = [t.1, t.2] ∧ Rch c pos i t
  next : ∀ x ∈ rowK o3 (i + 1), ∃ t : Int × Int, x = [t.1, t.2] ∧ Rch c pos (i + 1) t
  cov : ∀ t, Rch c pos i t → [t.1, t.2] ∈ rem ∨ ∀ inn u, nx c t.1 t.2 inn = some u → kd c pos i inn = true → [u.1, u.2] ∈ rowK o3 (i + 1)
theorem Rows.mid {i : Nat} {o3 : List (Option KS)} (h : Rows c pos i o3) (hi : i < c.cells.length) : Mid c pos i (rowK o3 i) o3 where
  hi := hi
  len := h.len
  isSome := h.isSome
  row := h.row
  rest := fun j hj hl => h.rest j (by omega) hl
  sub := fun x hx => (h.row i (Nat.le_refl _) x).1 hx
  next := fun x hx => by rw [h.rest (i + 1) (by omega) (by omega)] at hx; cases hx
  cov := fun t ht => .inl ((h.row i (Nat.le_refl _) _).2 ⟨t, rfl, ht⟩)
theorem Mid.rows {i : Nat} {o3 : List (Option KS)} (h : Mid c pos i [] o3) : Rows c pos (i + 1) o3 where
  len := h.len
  isSome := h.isSome
  row := fun j hj x => by
    rcases Nat.lt_succ_iff_lt_or_eq.1 (Nat.lt_succ_of_le hj) with hj | rfl
    · exact h.row j (by omega) x
    · refine ⟨h.next x, ?_⟩
      rintro ⟨t, rfl, s, inn, h1, h2, h3⟩
      rcases h.cov s h1 with h4 | h4
      · cases h4
      · exact h4 inn t h2 h3
  rest := h.rest
theorem pair_inj {t u : Int × Int} (h : ([t.1, t.2] : List Int) = [u.1, u.2]) : t = u := by
  obtain ⟨a, b⟩ := t
  obtain ⟨a', b'⟩ := u
  simp only [List.cons.injEq, and_true] at h
  rw [h.1, h.2]
theorem Mid.go {i : Nat} {o3 : List (Option KS)} {rem : KS} {t : Int × Int} (h : Mid c pos i rem o3) (ht : [t.1, t.2] ∈ rem) : Mid c pos i (rem.erase [t.1, t.2]) (putA c pos i (putA c pos i o3 t.1 t.2 false) t.1 t.2 true) := by
  have hl := h.len
  have hi := h.hi
  have h1 : i + 1 < o3.length := by omega
  have h2 : i + 1 < (putA c pos i o3 t.1 t.2 false).length := by rw [putA_len]; exact h1
  have hne : ∀ j, j ≠ i + 1 → rowK (putA c pos i (putA c pos i o3 t.1 t.2 false) t.1 t.2 true) j = rowK o3 j := fun j hj => by
    unfold rowK; rw [putA_ne hj, putA_ne hj]
  have hR : Rch c pos i t := by
    obtain ⟨u, e, hu⟩ := h.sub _ ht
    rw [pair_inj e]; exact hu
  refine ⟨hi, by rw [putA_len, putA_len]; exact hl, fun j hj => putA_isSome h2 (putA_isSome h1 (h.isSome j hj)), fun j hj x => ?_, fun j hj hjl => ?_, fun x hx => h.sub x (List.mem_of_mem_erase hx), fun x hx => ?_, fun s hs => ?_⟩
  · rw [hne j (by omega)]; exact h.row j hj x
  · rw [hne j (by omega)]; exact h.rest j hj hjl
  · rw [mem_putA h2, mem_putA h1] at hx
    rcases hx with (hx | ⟨u, e1, e2, rfl⟩) | ⟨u, e1, e2, rfl⟩
    · exact h.next x hx
    · exact ⟨u, rfl, t, false, hR, e1, e2⟩
    · exact ⟨u, rfl, t, true, hR, e1, e2⟩
  · by_cases e : s = t
    · subst e
      refine .inr fun inn u h3 h4 => ?_
      rw [mem_putA h2, mem_putA h1]
      cases inn
      · exact .inl (.inr ⟨u, h3, h4, rfl⟩)
      · exact .inr ⟨u, h3, h4, rfl⟩
    · rcases h.cov s hs with h3 | h3
      · exact .inl ((List.mem_erase_of_ne (fun e2 => e (pair_inj e2))).2 h3)
      · refine .inr fun inn u h4 h5 => ?_
        rw [mem_putA h2, mem_putA h1]
        exact .inl (.inl (h3 inn u h4 h5))
/-- What is answered in the end. -/
def RunsP (c : ConsD) (pos lost : List Int) (r : Bool × List Int) : Prop := r.1 = true ∧ LostBy c pos lost c.cells.length (runsD c pos) r.2 ∧ ∀ j, In64 (r.2.getD j 0)
theorem RunsP.uniq (r r' : Bool × List Int) (h : RunsP c pos lost r) (h' : RunsP c pos lost r') : r = r' := by
  obtain ⟨b, l⟩ := r
  obtain ⟨b', l'⟩ := r'
  obtain ⟨h1, h2, h3⟩ := h
  obtain ⟨h4, h5, h6⟩ := h'
  have e1 : b = true := h1
  have e2 : b' = true := h4
  have e3 : l = l' := LostBy.unique h2 h5 h3 h6
  rw [e1, e2, e3]
/-- The rounds of the first loop. -/
theorem mid_ev {i : Nat} {o1 : List Int} {x59 : Int} (W : Work c k pos) (R : RunsOk c) (hx : x59 = (i : Int)) (H : ∀ o3, Rows c pos (i + 1) o3 → PEv (fun n => runsW_m c q pos pos.length lost n (.l2 (x59 + 1) o1 o3)) (RunsP c pos lost)) :
    ∀ (m : Nat) (rem : KS) (o3 : List (Option KS)) (o5c : List Int), rem.length = m → Mid c pos i rem o3 → PEv (fun n => runsW_m c q pos pos.length lost n (.l8 i x59 o1 o3 i rem o5c)) (RunsP c pos lost) := by
  intro m
  induction m with
  | zero =>
    intro rem o3 o5c hm hM
    have : rem = [] := List.eq_nil_of_length_eq_zero hm
    subst this
    have hs := hM.isSome i (by have := hM.hi; omega)
    have r1 : R64 (x59 + 1) := by rw [hx]; exact (W.r64 hM.hi).2
    refine PEv.step 1 (fun n => ?_) (H o3 hM.rows)
    show runsW_l8 n (runsW_m c q pos pos.length lost n) c q pos pos.length lost i x59 o1 o3 i [] o5c = _
    unfold runsW_l8
    rw [if_pos hs, onNext_nil, if_pos r1]
  | succ m ih =>
    intro rem o3 o5c hm hM
    have hs := hM.isSome i (by have := hM.hi; omega)
    have hne : rem ≠ [] := by intro e; rw [e] at hm; cases hm
    refine PEv.step 1 (g := fun n => onNext rem (if R64 (x59 + 1) then runsW_m c q pos pos.length lost n (.l2 (x59 + 1) o1 o3) else none) (fun y1 => runsW_m c q pos pos.length lost n (.l5 i x59 0 o1 o3 i (y1.getD 0 0) (y1.getD 1 0) (rem.erase y1) y1))) (fun n => ?_) (PEv.next hne (fun y hy => ?_) RunsP.uniq)
    · show runsW_l8 n (runsW_m c q pos pos.length lost n) c q pos pos.length lost i x59 o1 o3 i rem o5c = _
      unfold runsW_l8
      rw [if_pos hs]
      simp only [if_pos hs]
    · obtain ⟨t, rfl, ht⟩ := hM.sub y hy
      have hS := ht.ok
      have hl := hM.len
      have hi := hM.hi
      have h1 : i + 1 < o3.length := by omega
      have s1 := hM.isSome (i + 1) (by omega)
      have h2 : i + 1 < (putA c pos i o3 t.1 t.2 false).length := by rw [putA_len]; exact h1
      have s2 := putA_isSome (c := c) (pos := pos) (d := t.1) (l := t.2) (inn := false) h1 s1
      refine PEv.step 3 (fun n => ?_) (ih _ _ [t.1, t.2] (by rw [List.length_erase_of_mem hy]; omega) (hM.go hy))
      show runsW_m c q pos pos.length lost (n + 2 + 1) (.l5 i x59 0 o1 o3 i t.1 t.2 (rem.erase [t.1, t.2]) [t.1, t.2]) = _
      rw [l5_0 W R hM.hi hS h1 s1, l5_1 W R hM.hi hS h2 s2, l5_2]
/-- The states from which the end can be reached. -/
def Ends (c : ConsD) (pos : List Int) (m : Nat) (o4 : KS) : Prop := ∀ x, x ∈ o4 ↔ ∃ t : Int × Int, x = [t.1, t.2] ∧ Liv c pos m t
def LBm (c : ConsD) (pos lost : List Int) (m : Nat) (o1 : List Int) : Prop := LostBy c pos lost c.cells.length (fun a s => c.cells.length ≤ a + m ∧ runsD c pos a s) o1 ∧ ∀ j, In64 (o1.getD j 0)
structure Bk (c : ConsD) (pos : List Int) (i m : Nat) (o5 : KS) (b0 b1 : Bool) (rem : KS) : Prop where
  hi : i + m + 1 = c.cells.length
  sub : ∀ x ∈ rem, ∃ t : Int × Int, x = [t.1, t.2] ∧ Rch c pos i t
  o5s : ∀ x ∈ o5, ∃ t : Int × Int, x = [t.1, t.2] ∧ Liv c pos (m + 1) t
  b0s : b0 = true → can c pos i false
  b1s : b1 = true → can c pos i true
  cov : ∀ t, Rch c pos i t → [t.1, t.2] ∈ rem ∨ ∀ inn u, nx c t.1 t.2 inn = some u → kd c pos i inn = true → Liv c pos m u → [t.1, t.2] ∈ o5 ∧ (bif inn then b1 else b0) = true
theorem okB_iff {i m : Nat} {o4 : KS} {d l : Int} {inn : Bool} (h : Ends c pos m o4) : okB c pos i o4 d l inn = true ↔ ∃ u, nx c d l inn = some u ∧ kd c pos i inn = true ∧ Liv c pos m u := by
  unfold okB
  split
  · rename_i t ht
    rw [Bool.and_eq_true, List.contains_iff_mem, h]
    constructor
    · rintro ⟨h1, u, h2, h3⟩
      exact ⟨t, ht, h1, by rw [pair_inj h2]; exact h3⟩
    · rintro ⟨u, h1, h2, h3⟩
      rw [ht] at h1; cases h1
      exact ⟨h2, t, rfl, h3⟩
  · rename_i hn
    exact ⟨fun h => (by cases h), fun ⟨u, h, _⟩ => by rw [hn] at h; cases h⟩
theorem Bk.go {i m : Nat} {o4 o5 rem : KS} {b0 b1 : Bool} {t : Int × Int} (hE : Ends c pos m o4) (h : Bk c pos i m o5 b0 b1 rem) (ht : [t.1, t.2] ∈ rem) :
    Bk c pos i m (bif okB c pos i o4 t.1 t.2 true then putK [t.1, t.2] (bif okB c pos i o4 t.1 t.2 false then putK [t.1, t.2] o5 else o5) else (bif okB c pos i o4 t.1 t.2 false then putK [t.1, t.2] o5 else o5)) (b0 || okB c pos i o4 t.1 t.2 false) (b1 || okB c pos i o4 t.1 t.2 true) (rem.erase [t.1, t.2]) := by
  have hR : Rch c pos i t := by
    obtain ⟨u, e, hu⟩ := h.sub _ ht
    rw [pair_inj e]; exact hu
  have ei : c.cells.length - 1 - i = m := by have := h.hi; omega
  have em : c.cells.length - 1 - m = i := by have := h.hi; omega
  have hcan : ∀ inn, okB c pos i o4 t.1 t.2 inn = true → can c pos i inn := fun inn ho => by
    obtain ⟨u, h1, h2, h3⟩ := (okB_iff hE).1 ho
    exact ⟨t, u, hR, h1, h2, by rw [ei]; exact h3⟩
  have hliv : ∀ inn, okB c pos i o4 t.1 t.2 inn = true → Liv c pos (m + 1) t := fun inn ho => by
    obtain ⟨u, h1, h2, h3⟩ := (okB_iff hE).1 ho
    show Rch c pos (c.cells.length - 1 - m) t ∧ ∃ u inn, nx c t.1 t.2 inn = some u ∧ kd c pos (c.cells.length - 1 - m) inn = true ∧ Liv c pos m u
    rw [em]
    exact ⟨hR, u, inn, h1, h2, h3⟩
  have mem : ∀ x, x ∈ (bif okB c pos i o4 t.1 t.2 true then putK [t.1, t.2] (bif okB c pos i o4 t.1 t.2 false then putK [t.1, t.2] o5 else o5) else (bif okB c pos i o4 t.1 t.2 false then putK [t.1, t.2] o5 else o5)) ↔ x ∈ o5 ∨ (x = [t.1, t.2] ∧ (okB c pos i o4 t.1 t.2 true = true ∨ okB c pos i o4 t.1 t.2 false = true)) := fun x => by
    cases okB c pos i o4 t.1 t.2 true <;> cases okB c pos i o4 t.1 t.2 false <;> simp only [cond_true, cond_false, mem_putK, Bool.false_eq_true, or_false, and_false, or_true, true_or, and_true]
    · exact Or.comm
    · exact Or.comm
    · exact ⟨fun h => h.elim .inr fun h => h.elim .inr .inl, fun h => h.elim (fun h => .inr (.inr h)) .inl⟩
  refine ⟨h.hi, fun x hx => h.sub x (List.mem_of_mem_erase hx), fun x hx => ?_, fun hb => ?_, fun hb => ?_, fun s hs => ?_⟩
  · rcases (mem x).1 hx with hx | ⟨rfl, h1 | h1⟩
    · exact h.o5s x hx
    · exact ⟨t, rfl, hliv _ h1⟩
    · exact ⟨t, rfl, hliv _ h1⟩
  · rcases Bool.or_eq_true_iff.1 hb with hb | hb
    · exact h.b0s hb
    · exact hcan _ hb
  · rcases Bool.or_eq_true_iff.1 hb with hb | hb
    · exact h.b1s hb
    · exact hcan _ hb
  · by_cases e : s = t
    · subst e
      refine .inr fun inn u h1 h2 h3 => ?_
      have ho : okB c pos i o4 s.1 s.2 inn = true := (okB_iff hE).2 ⟨u, h1, h2, h3⟩
      rw [mem]
      cases inn
      · exact ⟨.inr ⟨rfl, .inr ho⟩, by rw [cond_false, ho, Bool.or_true]⟩
      · exact ⟨.inr ⟨rfl, .inl ho⟩, by rw [cond_true, ho, Bool.or_true]⟩
    · rcases h.cov s hs with h3 | h3
      · exact .inl ((List.mem_erase_of_ne (fun e2 => e (pair_inj e2))).2 h3)
      · refine .inr fun inn u h4 h5 h6 => ?_
        obtain ⟨h7, h8⟩ := h3 inn u h4 h5 h6
        rw [mem]
        refine ⟨.inl h7, ?_⟩
        cases inn
        · rw [cond_false] at h8 ⊢; rw [h8]; rfl
        · rw [cond_true] at h8 ⊢; rw [h8]; rfl
theorem Bk.end' {i m : Nat} {o5 : KS} {b0 b1 : Bool} (h : Bk c pos i m o5 b0 b1 []) : Ends c pos (m + 1) o5 ∧ (b0 = true ↔ can c pos i false) ∧ (b1 = true ↔ can c pos i true) := by
  have ei : c.cells.length - 1 - i = m := by have := h.hi; omega
  have em : c.cells.length - 1 - m = i := by have := h.hi; omega
  refine ⟨fun x => ⟨h.o5s x, ?_⟩, ⟨h.b0s, ?_⟩, ⟨h.b1s, ?_⟩⟩
  · rintro ⟨t, rfl, h1⟩
    have h1 : Rch c pos (c.cells.length - 1 - m) t ∧ ∃ u inn, nx c t.1 t.2 inn = some u ∧ kd c pos (c.cells.length - 1 - m) inn = true ∧ Liv c pos m u := h1
    rw [em] at h1
    obtain ⟨h1, u, inn, h2, h3, h4⟩ := h1
    rcases h.cov t h1 with h5 | h5
    · cases h5
    · exact (h5 inn u h2 h3 h4).1
  · rintro ⟨s, t, h1, h2, h3, h4⟩
    rw [ei] at h4
    rcases h.cov s h1 with h5 | h5
    · cases h5
    · exact (h5 false t h2 h3 h4).2
  · rintro ⟨s, t, h1, h2, h3, h4⟩
    rw [ei] at h4
    rcases h.cov s h1 with h5 | h5
    · cases h5
    · exact (h5 true t h2 h3 h4).2
theorem lose_all {cell ss : Int} (h0 : 0 ≤ cell) (h1 : cell < (pos.length : Int)) (hl : lost.length = pos.length) (hi : ∀ j, In64 (lost.getD j 0)) :
    ∃ l', (∀ n, loseW n cell ss c q pos pos.length lost = some l') ∧ l'.length = pos.length ∧ (∀ j, In64 (l'.getD j 0)) ∧ ∀ j s, tb (l'.getD j 0) s = (tb (lost.getD j 0) s || (decide (j = cell.toNat) && (tb (pos.getD j 0) s && tb ss s))) := by
  obtain ⟨l', e, h2, h3⟩ := lose_some (n := 0) (ss := ss) (c := c) (q := q) h0 h1 hl
  exact ⟨l', fun _ => e, h2, lose_in e hi, h3⟩
theorem only_all {cell : Int} (h0 : 0 ≤ cell) (h1 : cell < (pos.length : Int)) (hl : lost.length = pos.length) (hi : ∀ j, In64 (lost.getD j 0)) :
    ∃ l', (∀ n, onlyW n cell c q pos pos.length lost = some l') ∧ l'.length = pos.length ∧ (∀ j, In64 (l'.getD j 0)) ∧ ∀ j s, tb (l'.getD j 0) s = (tb (lost.getD j 0) s || (decide (j = cell.toNat) && (tb (pos.getD j 0) s && !tb c.set s))) := by
  obtain ⟨l', e, h2, h3⟩ := only_some (n := 0) (c := c) (q := q) h0 h1 hl
  exact ⟨l', fun _ => e, h2, only_in e hi, h3⟩
theorem LBm.go {i m : Nat} {o1 l' : List Int} (h : LBm c pos lost m o1) (hi : i + m + 1 = c.cells.length) (hl : l'.length = pos.length) (hin : ∀ j, In64 (l'.getD j 0))
    (h1 : ∀ j s, tb (l'.getD j 0) s = true ↔ tb (o1.getD j 0) s = true ∨ ((c.cells.getD i 0).toNat = j ∧ tb (setAt c pos i) s = true ∧ runsD c pos i s)) : LBm c pos lost (m + 1) l' := by
  refine ⟨⟨hl, fun j s => ?_⟩, hin⟩
  rw [h1, h.1.2]
  constructor
  · rintro ((h | ⟨a, ha, h2, h3, h4, h5⟩) | h)
    · exact .inl h
    · exact .inr ⟨a, ha, h2, h3, by omega, h5⟩
    · exact .inr ⟨i, by omega, h.1, h.2.1, by omega, h.2.2⟩
  · rintro (h2 | ⟨a, ha, h2, h3, h4, h5⟩)
    · exact .inl (.inl h2)
    · by_cases e : c.cells.length ≤ a + m
      · exact .inl (.inr ⟨a, ha, h2, h3, e, h5⟩)
      · have : a = i := by omega
        subst this
        exact .inr ⟨h2, h3, h5⟩
/-- The rounds of the second loop. -/
theorem bk_ev {i m : Nat} {o1 : List Int} {o3 : List (Option KS)} {o4 : KS} {x16 : Int} (W : Work c k pos) (R : RunsOk c) (hx : x16 = (i : Int)) (hR : Rows c pos c.cells.length o3) (hE : Ends c pos m o4) (hL : LBm c pos lost m o1)
    (H : ∀ o1 o5, LBm c pos lost (m + 1) o1 → Ends c pos (m + 1) o5 → PEv (fun n => runsW_m c q pos pos.length lost n (.l4 (x16 - 1) o1 o3 o5)) (RunsP c pos lost)) :
    ∀ (z : Nat) (rem o5 : KS) (b0 b1 : Bool) (o7c : List Int), rem.length = z → Bk c pos i m o5 b0 b1 rem → PEv (fun n => runsW_m c q pos pos.length lost n (.l9 i o1 o3 i o4 o5 b0 b1 rem o7c)) (RunsP c pos lost) := by
  intro z
  induction z with
  | zero =>
    intro rem o5 b0 b1 o7c hm hB
    have : rem = [] := List.eq_nil_of_length_eq_zero hm
    subst this
    obtain ⟨e5, e0, e1⟩ := hB.end'
    have hi : i < c.cells.length := by have := hB.hi; omega
    have hs := hR.isSome i (by omega)
    have hlen := W.len
    have r1 : R64 ((i : Int) - 1) := R64_iff.2 ⟨by omega, by omega⟩
    have hc := W.cells i hi
    have g0 : (0 : Int) ≤ (i : Int) ∧ (i : Int) < ((c.cells.length : Nat) : Int) := ⟨by omega, by omega⟩
    obtain ⟨l1, f1, n1, i1, t1⟩ := lose_all (ss := c.set) (c := c) (q := q) hc.1 hc.2 hL.1.1 hL.2
    obtain ⟨l2, f2, n2, i2, t2⟩ := only_all (c := c) (q := q) hc.1 hc.2 n1 i1
    obtain ⟨l3, f3, n3, i3, t3⟩ := only_all (c := c) (q := q) hc.1 hc.2 hL.1.1 hL.2
    have eq : ∀ n, runsW_m c q pos pos.length lost (n + 1) (.l9 i o1 o3 i o4 o5 b0 b1 [] o7c) = runsW_m c q pos pos.length lost n (.l4 (i - 1) (bif !b1 then (bif !b0 then l2 else l1) else (bif !b0 then l3 else o1)) o3 o5) := fun n => by
      show runsW_l9 n (runsW_m c q pos pos.length lost n) c q pos pos.length lost i o1 o3 i o4 o5 b0 b1 [] o7c = _
      unfold runsW_l9
      rw [if_pos hs, onNext_nil]
      simp only [Int.toNat_natCast]
      cases b1 <;> cases b0 <;> simp only [Bool.not_false, Bool.not_true, cond_true, cond_false, if_pos g0, f1, f2, f3, Option.bind_some, if_pos r1]
    refine PEv.step 1 eq ?_
    have key : ∀ l' : List Int, l'.length = pos.length → (∀ j, In64 (l'.getD j 0)) → (∀ j s, tb (l'.getD j 0) s = (tb (o1.getD j 0) s || (decide (j = (c.cells.getD i 0).toNat) && (tb (pos.getD j 0) s && ((!b1 && tb c.set s) || (!b0 && !tb c.set s)))))) → LBm c pos lost (m + 1) l' := by
      intro l' h1 h2 h3
      refine hL.go hB.hi h1 h2 fun j s => ?_
      rw [h3, Bool.or_eq_true, Bool.and_eq_true, Bool.and_eq_true, decide_eq_true_iff, Bool.or_eq_true, Bool.and_eq_true, Bool.and_eq_true, Bool.not_eq_true', Bool.not_eq_true', Bool.not_eq_true']
      unfold runsD
      rw [← e0, ← e1, Bool.not_eq_true, Bool.not_eq_true]
      constructor
      · rintro (h | ⟨rfl, h⟩)
        · exact .inl h
        · exact .inr ⟨rfl, h⟩
      · rintro (h | ⟨rfl, h⟩)
        · exact .inl h
        · exact .inr ⟨rfl, h⟩
    subst hx
    cases b1 <;> cases b0 <;> simp only [Bool.not_false, Bool.not_true, cond_true, cond_false]
    · exact H l2 o5 (key l2 n2 i2 fun j s => by
        rw [t2, t1]
        cases tb (o1.getD j 0) s <;> cases decide (j = (c.cells.getD i 0).toNat) <;> cases tb (pos.getD j 0) s <;> cases tb c.set s <;> rfl) e5
    · exact H l1 o5 (key l1 n1 i1 fun j s => by
        rw [t1]
        cases tb (o1.getD j 0) s <;> cases decide (j = (c.cells.getD i 0).toNat) <;> cases tb (pos.getD j 0) s <;> cases tb c.set s <;> rfl) e5
    · exact H l3 o5 (key l3 n3 i3 fun j s => by
        rw [t3]
        cases tb (o1.getD j 0) s <;> cases decide (j = (c.cells.getD i 0).toNat) <;> cases tb (pos.getD j 0) s <;> cases tb c.set s <;> rfl) e5
    · exact H o1 o5 (key o1 hL.1.1 hL.2 fun j s => by
        cases tb (o1.getD j 0) s <;> cases decide (j = (c.cells.getD i 0).toNat) <;> cases tb (pos.getD j 0) s <;> cases tb c.set s <;> rfl) e5
  | succ z ih =>
    intro rem o5 b0 b1 o7c hm hB
    have hi : i < c.cells.length := by have := hB.hi; omega
    have hs := hR.isSome i (by omega)
    have hne : rem ≠ [] := by intro e; rw [e] at hm; cases hm
    refine PEv.step 1 (g := fun n => onNext rem none (fun y1 => runsW_m c q pos pos.length lost n (.l7 i 0 o1 o3 i o4 o5 b0 b1 (y1.getD 0 0) (y1.getD 1 0) (rem.erase y1) y1))) (fun n => ?_) (PEv.next hne (fun y hy => ?_) RunsP.uniq)
    · show runsW_l9 n (runsW_m c q pos pos.length lost n) c q pos pos.length lost i o1 o3 i o4 o5 b0 b1 rem o7c = _
      unfold runsW_l9
      rw [if_pos hs]
      simp only [if_pos hs]
      cases rem with
      | nil => exact absurd rfl hne
      | cons x r => rfl
    · obtain ⟨t, rfl, ht⟩ := hB.sub y hy
      have hS := ht.ok
      refine PEv.step 3 (fun n => ?_) (ih _ _ _ _ [t.1, t.2] (by rw [List.length_erase_of_mem hy]; omega) (hB.go hE hy))
      show runsW_m c q pos pos.length lost (n + 2 + 1) (.l7 i 0 o1 o3 i o4 o5 b0 b1 t.1 t.2 (rem.erase [t.1, t.2]) [t.1, t.2]) = _
      rw [l7_0 W R hi hS, l7_1 W R hi hS, l7_2]
theorem l6_l9 {n ln oi : Nat} {x16 : Int} {o1 : List Int} {o3 : List (Option KS)} {o4 o7 : KS} : runsW_m c q pos ln lost n (.l6 x16 o1 o3 oi o4 o7) = runsW_m c q pos ln lost n (.l9 x16 o1 o3 oi o4 [] false false o7 []) := by cases n <;> rfl
theorem l3_l8 {n ln oi : Nat} {x8 x59 : Int} {o1 : List Int} {o3 : List (Option KS)} {o4 : KS} : runsW_m c q pos ln lost n (.l3 x8 x59 o1 o3 oi o4) = runsW_m c q pos ln lost n (.l8 x8 x59 o1 o3 oi o4 []) := by cases n <;> rfl
theorem back_ev (W : Work c k pos) (R : RunsOk c) {o3 : List (Option KS)} (hR : Rows c pos c.cells.length o3) :
    ∀ (i m : Nat) (x16 : Int) (o1 : List Int) (o4 : KS), i + m = c.cells.length → x16 = (i : Int) - 1 → LBm c pos lost m o1 → Ends c pos m o4 → PEv (fun n => runsW_m c q pos pos.length lost n (.l4 x16 o1 o3 o4)) (RunsP c pos lost) := by
  intro i
  induction i with
  | zero =>
    intro m x16 o1 o4 hm hx hL hE
    refine Ev.p (r := (true, o1)) ⟨1, fun n hn => ?_⟩ ⟨rfl, ⟨hL.1.1, fun j s => ?_⟩, hL.2⟩
    · obtain ⟨n, rfl⟩ : ∃ n', n = n' + 1 := ⟨n - 1, by omega⟩
      show runsW_l4 n (runsW_m c q pos pos.length lost n) c q pos pos.length lost x16 o1 o3 o4 = _
      unfold runsW_l4
      rw [decide_eq_false (by omega), cond_false]
    · rw [hL.1.2]
      constructor
      · rintro (h | ⟨a, h1, h2, h3, _, h4⟩)
        · exact .inl h
        · exact .inr ⟨a, h1, h2, h3, h4⟩
      · rintro (h | ⟨a, h1, h2, h3, h4⟩)
        · exact .inl h
        · exact .inr ⟨a, h1, h2, h3, by omega, h4⟩
  | succ i ih =>
    intro m x16 o1 o4 hm hx hL hE
    have hx : x16 = (i : Int) := by omega
    subst hx
    have hs := hR.isSome i (by omega)
    have hlen := hR.len
    have t1 : ((((c.cells.length : Nat) : Int) + 1).toNat : Nat) = c.cells.length + 1 := by omega
    have t2 : 0 + ((i : Int).toNat : Nat) = i := by omega
    refine PEv.step 1 (g := fun n => runsW_m c q pos pos.length lost n (.l9 i o1 o3 i o4 [] false false (rowK o3 i) [])) (fun n => ?_) (bk_ev W R rfl hR hE hL (fun o1 o5 h1 h2 => ih (m + 1) ((i : Int) - 1) o1 o5 (by omega) rfl h1 h2) _ (rowK o3 i) [] false false [] rfl ⟨by omega, fun x hx => (hR.row i (by omega) x).1 hx, fun x hx => (by cases hx), fun h => (by cases h), fun h => (by cases h), fun t ht => .inl ((hR.row i (by omega) _).2 ⟨t, rfl, ht⟩)⟩)
    show runsW_l4 n (runsW_m c q pos pos.length lost n) c q pos pos.length lost (i : Int) o1 o3 o4 = _
    unfold runsW_l4
    simp only [t1, t2]
    rw [decide_eq_true (by omega), cond_true, if_pos hs, if_pos ⟨⟨by omega, by omega⟩, by omega, hs⟩]
    exact l6_l9
theorem front_ev (W : Work c k pos) (R : RunsOk c) (hl : lost.length = pos.length) (hin : ∀ j, In64 (lost.getD j 0)) :
    ∀ (m i : Nat) (x59 : Int) (o3 : List (Option KS)), i + m = c.cells.length → x59 = (i : Int) → Rows c pos i o3 → PEv (fun n => runsW_m c q pos pos.length lost n (.l2 x59 lost o3)) (RunsP c pos lost) := by
  intro m
  induction m with
  | zero =>
    intro i x59 o3 hm hx hR
    have hm : i = c.cells.length := by omega
    subst hm hx
    have hlen := W.len
    have hr := R.1
    have r1 : R64 ((c.cells.length : Int) - 1) := R64_iff.2 ⟨by omega, by omega⟩
    have r2 : R64 ((c.runs.length : Int) - 1) := R64_iff.2 ⟨by omega, by omega⟩
    have hL : LBm c pos lost 0 lost := ⟨⟨hl, fun j s => ⟨.inl, fun h => h.elim id fun ⟨a, h1, _, _, h2, _⟩ => absurd h2 (by omega)⟩⟩, hin⟩
    by_cases h0 : 0 < c.runs.length
    · have t1 : (((c.runs.length : Nat) : Int) - 1).toNat = c.runs.length - 1 := by omega
      refine PEv.step 1 (g := fun n => runsW_m c q pos pos.length lost n (.l4 ((c.cells.length : Int) - 1) lost o3 (putK [((c.runs.length : Int) - 1), c.runs.getD (c.runs.length - 1) 0] (putK [(c.runs.length : Int), 0] ([] : KS))))) (fun n => ?_) (back_ev W R hR c.cells.length 0 _ _ _ (by omega) rfl hL fun x => ?_)
      · show runsW_l2 n (runsW_m c q pos pos.length lost n) c q pos pos.length lost (c.cells.length : Int) lost o3 = _
        unfold runsW_l2
        rw [decide_eq_false (by omega), cond_false, decide_eq_true (by omega), cond_true, if_pos ⟨r2, ⟨by omega, by omega⟩, r1⟩, t1]
      · rw [mem_putK, mem_putK]
        constructor
        · rintro (rfl | rfl | h)
          · exact ⟨((c.runs.length : Int) - 1, c.runs.getD (c.runs.length - 1) 0), rfl, .inr ⟨h0, rfl⟩⟩
          · exact ⟨((c.runs.length : Int), 0), rfl, .inl rfl⟩
          · cases h
        · rintro ⟨t, rfl, rfl | ⟨_, rfl⟩⟩
          · exact .inr (.inl rfl)
          · exact .inl rfl
    · have h0' : c.runs.length = 0 := by omega
      refine PEv.step 1 (g := fun n => runsW_m c q pos pos.length lost n (.l4 ((c.cells.length : Int) - 1) lost o3 (putK [(c.runs.length : Int), 0] ([] : KS)))) (fun n => ?_) (back_ev W R hR c.cells.length 0 _ _ _ (by omega) rfl hL fun x => ?_)
      · show runsW_l2 n (runsW_m c q pos pos.length lost n) c q pos pos.length lost (c.cells.length : Int) lost o3 = _
        unfold runsW_l2
        rw [decide_eq_false (by omega), cond_false, decide_eq_false (by omega), cond_false, if_pos r1]
      · rw [mem_putK]
        constructor
        · rintro (rfl | h)
          · exact ⟨((c.runs.length : Int), 0), rfl, .inl rfl⟩
          · cases h
        · rintro ⟨t, rfl, rfl | ⟨h, rfl⟩⟩
          · exact .inl rfl
          · exact absurd h h0
  | succ m ih =>
    intro i x59 o3 hm hx hR
    subst hx
    have hi : i < c.cells.length := by omega
    have hs := hR.isSome i (by omega)
    have hlen := hR.len
    have t1 : ((((c.cells.length : Nat) : Int) + 1).toNat : Nat) = c.cells.length + 1 := by omega
    have t2 : 0 + ((i : Int).toNat : Nat) = i := by omega
    refine PEv.step 1 (g := fun n => runsW_m c q pos pos.length lost n (.l8 i i lost o3 i (rowK o3 i) [])) (fun n => ?_) (mid_ev W R rfl (fun o3 h => ih (i + 1) _ o3 (by omega) (by omega) h) _ _ _ _ rfl (hR.mid hi))
    show runsW_l2 n (runsW_m c q pos pos.length lost n) c q pos pos.length lost (i : Int) lost o3 = _
    unfold runsW_l2
    simp only [t1, t2]
    rw [decide_eq_true (by omega), cond_true, if_pos hs, if_pos ⟨⟨by omega, by omega⟩, by omega, hs⟩]
    exact l3_l8
theorem fill_ev (W : Work c k pos) (R : RunsOk c) (hl : lost.length = pos.length) (hin : ∀ j, In64 (lost.getD j 0)) :
    ∀ (m j : Nat) (x45 : Int) (o3 : List (Option KS)), j + m = c.cells.length + 1 → x45 = (j : Int) → o3.length = c.cells.length + 1 → (∀ i, i < j → o3.getD i none = some []) → PEv (fun n => runsW_m c q pos pos.length lost n (.l1 x45 o3)) (RunsP c pos lost) := by
  intro m
  induction m with
  | zero =>
    intro j x45 o3 hm hx hlen ho
    subst hx
    have t1 : ((((c.cells.length : Nat) : Int) + 1).toNat : Nat) = c.cells.length + 1 := by omega
    have hs : (o3.getD 0 none).isSome = true := by rw [ho 0 (by omega)]; rfl
    have e0 : (o3.getD 0 none).getD [] = [] := by rw [ho 0 (by omega)]; rfl
    have hg : ∀ i, i ≠ 0 → (o3.set 0 (some (putK [0, 0] ([] : KS)))).getD i none = o3.getD i none := fun i hi => getD_set_ne' (fun e => hi e.symm)
    have hg0 : (o3.set 0 (some (putK [0, 0] ([] : KS)))).getD 0 none = some (putK [0, 0] []) := getD_set_self' (by omega)
    refine PEv.step 1 (g := fun n => runsW_m c q pos pos.length lost n (.l2 0 lost (o3.set 0 (some (putK [0, 0] ([] : KS)))))) (fun n => ?_) (front_ev W R hl hin c.cells.length 0 0 _ (by omega) rfl ⟨by rw [List.length_set]; exact hlen, fun i hi => ?_, fun i hi x => ?_, fun i hi hil => ?_⟩)
    · show runsW_l1 n (runsW_m c q pos pos.length lost n) c q pos pos.length lost (j : Int) o3 = _
      unfold runsW_l1
      simp only [t1, Nat.zero_add]
      rw [decide_eq_false (by omega), cond_false, if_pos ⟨⟨by omega, by omega⟩, by omega, hs⟩, e0]
    · by_cases e : i = 0
      · subst e; rw [hg0]; rfl
      · rw [hg i e, ho i (by omega)]; rfl
    · obtain rfl : i = 0 := by omega
      show x ∈ ((o3.set 0 (some (putK [0, 0] ([] : KS)))).getD 0 none).getD [] ↔ _
      rw [hg0]
      show x ∈ putK [0, 0] [] ↔ _
      rw [mem_putK]
      constructor
      · rintro (rfl | h)
        · exact ⟨(0, 0), rfl, rfl⟩
        · cases h
      · rintro ⟨t, rfl, h⟩
        have h : t = (0, 0) := h
        subst h
        exact .inl rfl
    · show ((o3.set 0 (some (putK [0, 0] ([] : KS)))).getD i none).getD [] = []
      rw [hg i (by omega), ho i (by omega)]; rfl
  | succ m ih =>
    intro j x45 o3 hm hx hlen ho
    subst hx
    have hlen2 := W.len
    have t1 : ((((c.cells.length : Nat) : Int) + 1).toNat : Nat) = c.cells.length + 1 := by omega
    have t2 : 0 + ((j : Int).toNat : Nat) = j := by omega
    refine PEv.step 1 (g := fun n => runsW_m c q pos pos.length lost n (.l1 ((j : Int) + 1) (o3.set j (some ([] : KS))))) (fun n => ?_) (ih (j + 1) _ _ (by omega) (by omega) (by rw [List.length_set]; exact hlen) fun i hi => ?_)
    · show runsW_l1 n (runsW_m c q pos pos.length lost n) c q pos pos.length lost (j : Int) o3 = _
      unfold runsW_l1
      simp only [t1, t2]
      rw [decide_eq_true (by omega), cond_true, if_pos ⟨⟨by omega, by omega⟩, by omega, R64_iff.2 ⟨by omega, by omega⟩⟩]
    · by_cases e : i = j
      · subst e; exact getD_set_self' (by omega)
      · rw [getD_set_ne' (fun h => e h.symm)]; exact ho i (by omega)
def runsOk (c : ConsD) : Bool := (c.cells.length != 0) || (c.runs.length == 0)
theorem runs_ev (W : Work c k pos) (R : RunsOk c) (hl : lost.length = pos.length) (hin : ∀ j, In64 (lost.getD j 0)) :
    ∃ l, Ev (fun n => runsW n c q pos pos.length lost) (runsOk c, l) ∧ (runsOk c = true → LostBy c pos lost c.cells.length (runsD c pos) l) := by
  by_cases h0 : c.cells.length = 0
  · have e1 : runsOk c = ((c.runs.length : Int) == 0) := by
      unfold runsOk
      rw [h0]
      cases h : c.runs.length with
      | zero => rfl
      | succ m => rfl
    refine ⟨lost, Ev.now fun n => ?_, fun _ => by rw [h0]; exact LostBy.zero hl⟩
    unfold runsW runsW_l0
    rw [h0, e1]; rfl
  · have e1 : runsOk c = true := by
      unfold runsOk
      cases h : c.cells.length with
      | zero => exact absurd h h0
      | succ m => rfl
    have hlen := W.len
    have t1 : ((((c.cells.length : Nat) : Int) + 1).toNat : Nat) = c.cells.length + 1 := by omega
    obtain ⟨r, h1, h2⟩ := (fill_ev (q := q) W R hl hin (c.cells.length + 1) 0 0 (List.replicate (c.cells.length + 1) none) (by omega) rfl (by simp) (fun i hi => absurd hi (Nat.not_lt_zero i))).ev RunsP.uniq
    obtain ⟨b, l⟩ := r
    obtain ⟨h3, h4, h5⟩ := h1
    have h3 : b = true := h3
    subst h3
    refine ⟨l, ?_, fun _ => h4⟩
    rw [e1]
    refine h2.eq fun n => ?_
    unfold runsW runsW_l0
    rw [t1]
    have e2 : (((c.cells.length : Nat) : Int) == 0) = false := by
      rw [beq_eq_false_iff_ne]; omega
    rw [e2, cond_false, if_pos ⟨R64_iff.2 ⟨by omega, by omega⟩, rfl, by omega, by omega⟩]
end
end Go.Proofs.YtekkngkphejfcaaDoor
namespace Go.Proofs.YtekkngkphejfcaaDoor
open Go.RowKit
section
variable {c : ConsD} {k : Nat} {pos lost : List Int} {q : ProbD}
/-- A constraint on all cells, in their order, of a problem with a graph. -/
structure WorkAll (c : ConsD) (q : ProbD) (pos : List Int) : Prop where
  len : c.cells.length = pos.length
  id : ∀ j, j < pos.length → c.cells.getD j 0 = (j : Int)
  g : GrOk q.nbrs
  gl : q.nbrs.length = pos.length
  l0 : 0 < pos.length
  l1 : pos.length ≤ 256
  nz : ∀ j, j < pos.length → In64 (pos.getD j 0) ∧ pos.getD j 0 ≠ 0
def pB (c : ConsD) (pos : List Int) : List Bool := pos.map fun x => bits .and .i64 x c.set != 0
def cB (c : ConsD) (pos : List Int) : List Bool := pos.map fun x => bits .andNot .i64 x c.set == 0
theorem pB_len : (pB c pos).length = pos.length := List.length_map _
theorem cB_len : (cB c pos).length = pos.length := List.length_map _
theorem pB_at {j : Nat} (hj : j < pos.length) : (pB c pos).getD j false = (bits .and .i64 (pos.getD j 0) c.set != 0) := by
  unfold pB
  rw [List.getD_eq_getElem?_getD, List.getElem?_map, List.getElem?_eq_getElem hj, List.getD_eq_getElem?_getD, List.getElem?_eq_getElem hj]; rfl
theorem cB_at {j : Nat} (hj : j < pos.length) : (cB c pos).getD j false = (bits .andNot .i64 (pos.getD j 0) c.set == 0) := by
  unfold cB
  rw [List.getD_eq_getElem?_getD, List.getElem?_map, List.getElem?_eq_getElem hj, List.getD_eq_getElem?_getD, List.getElem?_eq_getElem hj]; rfl
theorem WorkAll.cp (W : WorkAll c q pos) {j : Nat} (hj : j < pos.length) (h : (cB c pos).getD j false = true) : (pB c pos).getD j false = true := by
  rw [cB_at hj, beq_iff_eq] at h
  rw [pB_at hj, bne_iff_ne]
  obtain ⟨h1, h2⟩ := W.nz j hj
  obtain ⟨s, hs, hb⟩ := (tb_ne_zero h1).1 h2
  have h3 := (tb_eq_zero (bits_in .andNot _ _)).1 h s hs
  rw [tb_andNot, hb, Bool.true_and, Bool.not_eq_false'] at h3
  exact (tb_ne_zero (bits_in .and _ _)).2 ⟨s, hs, by rw [tb_and, hb, h3]; rfl⟩
/-- Lost for a reason, cell by cell. -/
def LostAt (pos lost : List Int) (D : Nat → Nat → Prop) (l : List Int) : Prop :=
  (l.length = pos.length ∧ ∀ j, In64 (l.getD j 0)) ∧ ∀ j s, tb (l.getD j 0) s = true ↔ tb (lost.getD j 0) s = true ∨ (j < pos.length ∧ tb (pos.getD j 0) s = true ∧ D j s)
theorem LostAt.unique {D : Nat → Nat → Prop} {l l' : List Int} (h : LostAt pos lost D l) (h' : LostAt pos lost D l') : l = l' := by
  have e : l.length = l'.length := h.1.1.trans h'.1.1.symm
  refine List.ext_getElem e fun j h1 h2 => ?_
  have e1 : l.getD j 0 = l[j] := by simp [h1]
  have e2 : l'.getD j 0 = l'[j] := by simp [h2]
  rw [← e1, ← e2]
  refine tb_ext (h.1.2 j) (h'.1.2 j) fun s _ => ?_
  rw [Bool.eq_iff_iff, h.2, h'.2]
theorem LostAt.by {D : Nat → Nat → Prop} {l : List Int} (W : WorkAll c q pos) (h : LostAt pos lost D l) : LostBy c pos lost c.cells.length D l := by
  refine ⟨h.1.1, fun j s => ?_⟩
  have hl := W.len
  rw [h.2]
  constructor
  · rintro (h1 | ⟨h1, h2, h3⟩)
    · exact .inl h1
    · have e := W.id j h1
      exact .inr ⟨j, by omega, by rw [e]; omega, by show tb (pos.getD (c.cells.getD j 0).toNat 0) s = true; rw [e, Int.toNat_natCast]; exact h2, h3⟩
  · rintro (h1 | ⟨a, h1, h2, h3, h4⟩)
    · exact .inl h1
    · have e := W.id a (by omega)
      have h3 : tb (pos.getD (c.cells.getD a 0).toNat 0) s = true := h3
      rw [e, Int.toNat_natCast] at h2 h3
      subst h2
      exact .inr ⟨by omega, h3, h4⟩
theorem LostAt.step {D D' : Nat → Nat → Prop} {l l' : List Int} (h : LostAt pos lost D l) (hl : l'.length = pos.length) (hin : ∀ j, In64 (l'.getD j 0)) {E : Nat → Nat → Prop} (h1 : ∀ j s, tb (l'.getD j 0) s = true ↔ tb (l.getD j 0) s = true ∨ (j < pos.length ∧ tb (pos.getD j 0) s = true ∧ E j s))
    (hD : ∀ j s, j < pos.length → tb (pos.getD j 0) s = true → (D' j s ↔ D j s ∨ E j s)) : LostAt pos lost D' l' := by
  refine ⟨⟨hl, hin⟩, fun j s => ?_⟩
  rw [h1, h.2]
  constructor
  · rintro ((h2 | ⟨h2, h3, h4⟩) | ⟨h2, h3, h4⟩)
    · exact .inl h2
    · exact .inr ⟨h2, h3, (hD j s h2 h3).2 (.inl h4)⟩
    · exact .inr ⟨h2, h3, (hD j s h2 h3).2 (.inr h4)⟩
  · rintro (h2 | ⟨h2, h3, h4⟩)
    · exact .inl (.inl h2)
    · rcases (hD j s h2 h3).1 h4 with h5 | h5
      · exact .inl (.inr ⟨h2, h3, h5⟩)
      · exact .inr ⟨h2, h3, h5⟩
theorem LostAt.id' {D D' : Nat → Nat → Prop} {l : List Int} (h : LostAt pos lost D l) (hD : ∀ j s, j < pos.length → tb (pos.getD j 0) s = true → (D' j s ↔ D j s)) : LostAt pos lost D' l :=
  h.step (E := fun _ _ => False) h.1.1 h.1.2 (fun j s => by simp) fun j s h1 h2 => by rw [hD j s h1 h2, or_false]
theorem LostAt.lose {D D' : Nat → Nat → Prop} {l : List Int} (h : LostAt pos lost D l) {cell ss : Int} (h0 : 0 ≤ cell) (h1 : cell < (pos.length : Int)) (hD : ∀ j s, j < pos.length → tb (pos.getD j 0) s = true → (D' j s ↔ D j s ∨ ((j : Int) = cell ∧ tb ss s = true))) :
    ∃ l', (∀ n, loseW n cell ss c q pos pos.length l = some l') ∧ LostAt pos lost D' l' := by
  obtain ⟨l', e, h2, h3, h4⟩ := lose_all (ss := ss) (c := c) (q := q) h0 h1 h.1.1 h.1.2
  refine ⟨l', e, h.step h2 h3 (E := fun j s => (j : Int) = cell ∧ tb ss s = true) (fun j s => ?_) hD⟩
  rw [h4, Bool.or_eq_true, Bool.and_eq_true, Bool.and_eq_true, decide_eq_true_iff]
  constructor
  · rintro (h5 | ⟨rfl, h5, h6⟩)
    · exact .inl h5
    · exact .inr ⟨by omega, h5, by omega, h6⟩
  · rintro (h5 | ⟨h5, h6, h7, h8⟩)
    · exact .inl h5
    · exact .inr ⟨by omega, h6, h8⟩
theorem LostAt.only {D D' : Nat → Nat → Prop} {l : List Int} (h : LostAt pos lost D l) {cell : Int} (h0 : 0 ≤ cell) (h1 : cell < (pos.length : Int)) (hD : ∀ j s, j < pos.length → tb (pos.getD j 0) s = true → (D' j s ↔ D j s ∨ ((j : Int) = cell ∧ tb c.set s = false))) :
    ∃ l', (∀ n, onlyW n cell c q pos pos.length l = some l') ∧ LostAt pos lost D' l' := by
  obtain ⟨l', e, h2, h3, h4⟩ := only_all (c := c) (q := q) h0 h1 h.1.1 h.1.2
  refine ⟨l', e, h.step h2 h3 (E := fun j s => (j : Int) = cell ∧ tb c.set s = false) (fun j s => ?_) hD⟩
  rw [h4, Bool.or_eq_true, Bool.and_eq_true, Bool.and_eq_true, decide_eq_true_iff, Bool.not_eq_true']
  constructor
  · rintro (h5 | ⟨rfl, h5, h6⟩)
    · exact .inl h5
    · exact .inr ⟨by omega, h5, by omega, h6⟩
  · rintro (h5 | ⟨h5, h6, h7, h8⟩)
    · exact .inl h5
    · exact .inr ⟨by omega, h6, h8⟩
/-- The first cell that must be in the set. -/
def Fst (l : List Bool) (r : Int) : Prop := (r = -1 ∧ ∀ j, j < l.length → l.getD j false = false) ∨ (0 ≤ r ∧ r < (l.length : Int) ∧ l.getD r.toNat false = true ∧ ∀ j : Nat, (j : Int) < r → l.getD j false = false)
theorem indexB_ev {l : List Bool} (hl : l.length ≤ 256) : ∃ r, Ev (fun n => indexB n l true) r ∧ Fst l r := by
  have key : ∀ (k i : Nat), i + k = l.length → (∀ j, j < i → l.getD j false = false) → ∃ r, Ev (fun n => indexB_m l true n (.l1 (i : Int))) r ∧ Fst l r := by
    intro k
    induction k with
    | zero =>
      intro i e h
      refine ⟨-1, ⟨1, fun n hn => ?_⟩, .inl ⟨rfl, fun j hj => h j (by omega)⟩⟩
      obtain ⟨n, rfl⟩ : ∃ k, n = k + 1 := ⟨n - 1, by omega⟩
      show indexB_l1 n (indexB_m l true n) l true (i : Int) = _
      unfold indexB_l1
      rw [decide_eq_false (by omega), cond_false]
    | succ k ih =>
      intro i e h
      have U : ∀ n, indexB_m l true (n + 1) (.l1 (i : Int)) = bif l.getD i false then some (i : Int) else indexB_m l true n (.l1 ((i : Int) + 1)) := fun n => by
        show indexB_l1 n (indexB_m l true n) l true (i : Int) = _
        unfold indexB_l1
        rw [decide_eq_true (by omega), cond_true, if_pos ⟨by omega, by omega⟩, Int.toNat_natCast, if_pos (R64_iff.2 ⟨by omega, by omega⟩)]
        cases l.getD i false <;> rfl
      cases hi : l.getD i false
      · obtain ⟨r, h1, h2⟩ := ih (i + 1) (by omega) fun j hj => by
          rcases Nat.lt_succ_iff_lt_or_eq.1 hj with hj | rfl
          · exact h j hj
          · exact hi
        refine ⟨r, Ev.step 1 (fun n => ?_) h1, h2⟩
        rw [U, hi, cond_false]; rfl
      · refine ⟨(i : Int), ⟨1, fun n hn => ?_⟩, .inr ⟨by omega, by omega, by rw [Int.toNat_natCast]; exact hi, fun j hj => h j (by omega)⟩⟩
        obtain ⟨n, rfl⟩ : ∃ k, n = k + 1 := ⟨n - 1, by omega⟩
        show indexB_m l true (n + 1) (.l1 (i : Int)) = _
        rw [U, hi, cond_true]
  exact key l.length 0 (by omega) fun j hj => absurd hj (Nat.not_lt_zero j)
theorem ext_getD {l l' : List Bool} (h : l.length = l'.length) (h2 : ∀ j, j < l.length → l.getD j false = l'.getD j false) : l = l' := by
  refine List.ext_getElem h fun j h3 h4 => ?_
  have := h2 j h3
  rwa [List.getD_eq_getElem?_getD, List.getElem?_eq_getElem h3, List.getD_eq_getElem?_getD, List.getElem?_eq_getElem h4] at this
theorem bgetD_set {l : List Bool} {i j : Nat} {b : Bool} (hi : i < l.length) : (l.set i b).getD j false = if j = i then b else l.getD j false := by
  by_cases e : j = i
  · subst e; rw [if_pos rfl, List.getD_eq_getElem?_getD, List.getElem?_set_self hi]; rfl
  · rw [if_neg e, List.getD_eq_getElem?_getD, List.getElem?_set_ne (fun h => e h.symm), ← List.getD_eq_getElem?_getD]
/-- Lost, since not connected with the first cell that must be in the set. -/
def farD (c : ConsD) (q : ProbD) (pos : List Int) (a s : Nat) : Prop := (pB c pos).getD a false = true ∧ tb c.set s = true ∧ ∃ r : Int, 0 ≤ r ∧ Fst (cB c pos) r ∧ ¬ Rc q.nbrs (pB c pos) r a
theorem Fst.uniq {l : List Bool} {r r' : Int} (h : Fst l r) (h' : Fst l r') : r = r' := by
  rcases h with ⟨rfl, h⟩ | ⟨h0, h1, h2, h3⟩ <;> rcases h' with ⟨rfl, h'⟩ | ⟨h0', h1', h2', h3'⟩
  · rfl
  · rw [h r'.toNat (by omega)] at h2'; cases h2'
  · rw [h' r.toNat (by omega)] at h2; cases h2
  · rcases Int.lt_trichotomy r r' with h4 | h4 | h4
    · rw [h3' r.toNat (by omega)] at h2; cases h2
    · exact h4
    · rw [h3 r'.toNat (by omega)] at h2'; cases h2'
theorem wipe (G : GrOk q.nbrs) (hB : (pB c pos).length = q.nbrs.length) {r : Int} (hr0 : 0 ≤ r) (hF : Fst (cB c pos) r) {j s : Nat} : farD c q pos j s ↔ (pB c pos).getD j false = true ∧ tb c.set s = true ∧ ¬ Rc q.nbrs (pB c pos) r j := by
  constructor
  · rintro ⟨h1, h2, r', _, hF', h3⟩
    rw [hF.uniq hF']
    exact ⟨h1, h2, h3⟩
  · rintro ⟨h1, h2, h3⟩
    exact ⟨h1, h2, r, hr0, hF, h3⟩
/-- What nodes answers. -/
def NodesP (c : ConsD) (q : ProbD) (pos lost : List Int) (r : Int) (x : List Bool × List Bool × Bool × List Int) : Prop := x.1 = pB c pos ∧ x.2.1 = cB c pos ∧ x.2.2.1 = decide (0 ≤ r) ∧ LostAt pos lost (farD c q pos) x.2.2.2
theorem NodesP.uniq {r : Int} (x y : List Bool × List Bool × Bool × List Int) (h : NodesP c q pos lost r x) (h' : NodesP c q pos lost r y) : x = y := by
  obtain ⟨x1, x2, x3, x4⟩ := x
  obtain ⟨y1, y2, y3, y4⟩ := y
  obtain ⟨h1, h2, h3, h4⟩ := h
  obtain ⟨h1', h2', h3', h4'⟩ := h'
  have e4 : x4 = y4 := h4.unique h4'
  have e1 : x1 = y1 := Eq.trans h1 h1'.symm
  have e2 : x2 = y2 := Eq.trans h2 h2'.symm
  have e3 : x3 = y3 := Eq.trans h3 h3'.symm
  rw [e1, e2, e3, e4]
theorem nodes_far {n : Nat} (W : WorkAll c q pos) (hL : LostAt pos lost (fun _ _ => False) lost) {r : Int} (hr0 : 0 ≤ r) (hF : Fst (cB c pos) r) {near : List Int} (hn : near.length ≤ 256) (hnear : ∀ v, v ∈ near ↔ Rc q.nbrs (pB c pos) r v) (hfu : 600 ≤ n) :
    ∃ x, nodesW_m c q pos pos.length lost n (.l2 (pB c pos) (pB c pos).length near (near.length : Int) 0 (cB c pos) (pB c pos)) = some x ∧ NodesP c q pos lost r x := by
  have hl1 := W.l1
  have hgl := W.gl
  have hr1 : r < (q.nbrs.length : Int) := by
    rcases hF with ⟨h, _⟩ | ⟨_, h, _⟩
    · omega
    · rw [cB_len] at h; omega
  have hrng : ∀ v ∈ near, 0 ≤ v ∧ v < (pos.length : Int) := fun v hv => by
    have := ((hnear v).1 hv).rng W.g.gr hr0 hr1
    omega
  have S := loop0 (fun n (far : List Bool) i => nodesW_m c q pos pos.length lost n (.l2 (pB c pos) (pB c pos).length near (near.length : Int) i (cB c pos) far)) near.length (pos.length + 3)
    (fun i far => far.length = pos.length ∧ ∀ j : Nat, far.getD j false = true ↔ (pB c pos).getD j false = true ∧ (j : Int) ∉ near.take i) (fun n i far hn0 hi hI => ?_) (n := n) (s := pB c pos) (by omega) ⟨pB_len, fun j => by simp⟩
  · obtain ⟨n1, far, hn1, _, e1, hfl, hfar⟩ := S
    obtain ⟨n2, rfl⟩ : ∃ n2, n1 = n2 + 1 := ⟨n1 - 1, by omega⟩
    rw [List.take_length] at hfar
    have T := loop0 (fun n (o1 : List Int) i => nodesW_m c q pos pos.length lost n (.l3 (pB c pos) (pB c pos).length ((pB c pos).length : Int) i o1 (cB c pos) far)) pos.length 1
      (fun i o1 => LostAt pos lost (fun j s => j < i ∧ farD c q pos j s) o1) (fun n i o1 hn0 hi hI => ?_) (n := n2) (s := lost) (by omega) (hL.id' fun j s _ _ => ⟨fun h => absurd h.1 (Nat.not_lt_zero j), fun h => h.elim⟩)
    · obtain ⟨n3, o1, hn3, _, e2, hL1⟩ := T
      obtain ⟨n4, rfl⟩ : ∃ n4, n3 = n4 + 1 := ⟨n3 - 1, by omega⟩
      refine ⟨(pB c pos, cB c pos, true, o1), ?_, rfl, rfl, (decide_eq_true hr0).symm, hL1.id' fun j s hj _ => ⟨fun h => ⟨hj, h⟩, fun h => h.2⟩⟩
      refine Eq.trans e1 ?_
      show nodesW_l2 n2 (nodesW_m c q pos pos.length lost n2) c q pos pos.length lost (pB c pos) (pB c pos).length near (near.length : Int) (near.length : Int) (cB c pos) far = _
      unfold nodesW_l2
      rw [decide_eq_false (by omega), cond_false]
      refine Eq.trans e2 ?_
      show nodesW_l3 n4 (nodesW_m c q pos pos.length lost n4) c q pos pos.length lost (pB c pos) (pB c pos).length ((pB c pos).length : Int) (pos.length : Int) o1 (cB c pos) far = _
      unfold nodesW_l3
      rw [pB_len, decide_eq_false (by omega), cond_false, if_pos cB_len.symm]
    · show ∃ s', nodesW_l3 n (nodesW_m c q pos pos.length lost n) c q pos pos.length lost (pB c pos) (pB c pos).length ((pB c pos).length : Int) (i : Int) o1 (cB c pos) far = _ ∧ _
      unfold nodesW_l3
      simp only [Int.toNat_natCast, Nat.zero_add]
      have r1 : R64 ((i : Int) + 1) := R64_iff.2 ⟨by omega, by omega⟩
      rw [pB_len, decide_eq_true (by omega), cond_true, if_pos ⟨⟨by omega, by omega⟩, by omega⟩]
      have hfi : far.getD i false = true ↔ (pB c pos).getD i false = true ∧ ¬ Rc q.nbrs (pB c pos) r i := by rw [hfar, hnear]
      cases hf : far.getD i false
      · rw [cond_false, if_pos r1]
        refine ⟨o1, rfl, hI.id' fun j s hj _ => ⟨fun h => ⟨?_, h.2⟩, fun h => ⟨by omega, h.2⟩⟩⟩
        rcases Nat.lt_succ_iff_lt_or_eq.1 h.1 with h1 | rfl
        · exact h1
        · have h2 := (wipe W.g (by rw [pB_len]; exact hgl.symm) hr0 hF).1 h.2
          have := hfi.2 ⟨h2.1, h2.2.2⟩
          rw [hf] at this; cases this
      · obtain ⟨l', e, h2⟩ := hI.lose (c := c) (q := q) (D' := fun j s => j < i + 1 ∧ farD c q pos j s) (cell := (i : Int)) (ss := c.set) (by omega) (by omega) fun j s hj _ => by
          constructor
          · rintro ⟨h1, h2⟩
            rcases Nat.lt_succ_iff_lt_or_eq.1 h1 with h1 | rfl
            · exact .inl ⟨h1, h2⟩
            · exact .inr ⟨rfl, h2.2.1⟩
          · rintro (⟨h1, h2⟩ | ⟨h1, h2⟩)
            · exact ⟨by omega, h2⟩
            · obtain rfl : j = i := by omega
              have h3 := hfi.1 hf
              exact ⟨by omega, (wipe W.g (by rw [pB_len]; exact hgl.symm) hr0 hF).2 ⟨h3.1, h2, h3.2⟩⟩
        rw [cond_true, e, Option.bind_some, if_pos r1]
        exact ⟨l', rfl, h2⟩
  · obtain ⟨hl, hf⟩ := hI
    have hx : near.getD i 0 ∈ near := by rw [List.getD_eq_getElem?_getD, List.getElem?_eq_getElem hi]; exact List.getElem_mem hi
    have hxr := hrng _ hx
    show ∃ s', nodesW_l2 n (nodesW_m c q pos pos.length lost n) c q pos pos.length lost (pB c pos) (pB c pos).length near (near.length : Int) (i : Int) (cB c pos) far = _ ∧ _
    unfold nodesW_l2
    simp only [Int.toNat_natCast, Nat.zero_add]
    rw [pB_len, decide_eq_true (by omega), cond_true, if_pos ⟨⟨by omega, by omega⟩, hxr, by omega, R64_iff.2 ⟨by omega, by omega⟩⟩]
    refine ⟨_, rfl, by rw [List.length_set]; exact hl, fun j => ?_⟩
    have e3 : near.take (i + 1) = near.take i ++ [near.getD i 0] := by
      rw [List.take_succ_eq_append_getElem hi, List.getD_eq_getElem?_getD, List.getElem?_eq_getElem hi]; rfl
    rw [bgetD_set (by omega), e3, List.mem_append, List.mem_singleton]
    by_cases e : j = (near.getD i 0).toNat
    · rw [if_pos e]
      exact ⟨fun h => (by cases h), fun h => absurd (Or.inr (by omega)) h.2⟩
    · rw [if_neg e, hf]
      exact ⟨fun h => ⟨h.1, fun h2 => h2.elim h.2 fun h3 => e (by omega)⟩, fun h => ⟨h.1, fun h2 => h.2 (.inl h2)⟩⟩
theorem nodes_ev (W : WorkAll c q pos) (hL : LostAt pos lost (fun _ _ => False) lost) {r : Int} (hF : Fst (cB c pos) r) :
    ∃ l, Ev (fun n => nodesW n c q pos pos.length lost) (pB c pos, cB c pos, decide (0 ≤ r), l) ∧ LostAt pos lost (farD c q pos) l := by
  have hl1 := W.l1
  have hgl := W.gl
  have hlen := W.len
  have L : (1000000000000 : Nat) = LIM := rfl
  suffices H : PEv (fun n => nodesW n c q pos pos.length lost) (NodesP c q pos lost r) by
    obtain ⟨x, h1, h2⟩ := H.ev NodesP.uniq
    obtain ⟨x1, x2, x3, x4⟩ := x
    obtain ⟨h3, h4, h5, h6⟩ := h1
    have h3 : x1 = pB c pos := h3
    have h4 : x2 = cB c pos := h4
    have h5 : x3 = decide (0 ≤ r) := h5
    subst h3 h4 h5
    exact ⟨x4, h2, h6⟩
  have first : ∀ n, nodesW_m c q pos pos.length lost (n + c.cells.length) (.l1 0 (List.replicate pos.length false) (List.replicate pos.length false)) = nodesW_m c q pos pos.length lost n (.l1 (c.cells.length : Int) (pB c pos) (cB c pos)) := fun n => by
    have z : ∀ j : Nat, (List.replicate pos.length false).getD j false = false := fun j => by
      rw [List.getD_eq_getElem?_getD, List.getElem?_replicate]; split <;> rfl
    obtain ⟨s', e, h1, h2, h3, h4⟩ := loopE (fun n (s : List Bool × List Bool) i => nodesW_m c q pos pos.length lost n (.l1 i s.1 s.2)) c.cells.length 0
      (fun i s => s.1.length = pos.length ∧ s.2.length = pos.length ∧ (∀ j, s.1.getD j false = if j < i then (pB c pos).getD j false else false) ∧ (∀ j, s.2.getD j false = if j < i then (cB c pos).getD j false else false))
      (fun n i s _ hi hI => by
        obtain ⟨o2, o3⟩ := s
        obtain ⟨h1, h2, h3, h4⟩ := hI
        have h1 : o2.length = pos.length := h1
        have h2 : o3.length = pos.length := h2
        have hid := W.id i (by omega)
        show ∃ s', nodesW_l1 n (nodesW_m c q pos pos.length lost n) c q pos pos.length lost (i : Int) o2 o3 = _ ∧ _
        unfold nodesW_l1
        simp only [Int.toNat_natCast, Nat.zero_add, hid]
        rw [decide_eq_true (by omega), cond_true, if_pos ⟨⟨by omega, by omega⟩, ⟨by omega, by omega⟩, by omega, by omega, R64_iff.2 ⟨by omega, by omega⟩⟩]
        refine ⟨(_, _), rfl, by rw [List.length_set]; exact h1, by rw [List.length_set]; exact h2, fun j => ?_, fun j => ?_⟩
        · show (o2.set i _).getD j false = _
          rw [bgetD_set (by omega)]
          by_cases e : j = i
          · subst e; rw [if_pos rfl, if_pos (by omega), pB_at (by omega)]
          · have h3 : o2.getD j false = _ := h3 j
            rw [if_neg e, h3]
            by_cases e2 : j < i
            · rw [if_pos e2, if_pos (by omega)]
            · rw [if_neg e2, if_neg (by omega)]
        · show (o3.set i _).getD j false = _
          rw [bgetD_set (by omega)]
          by_cases e : j = i
          · subst e; rw [if_pos rfl, if_pos (by omega), cB_at (by omega)]
          · have h4 : o3.getD j false = _ := h4 j
            rw [if_neg e, h4]
            by_cases e2 : j < i
            · rw [if_pos e2, if_pos (by omega)]
            · rw [if_neg e2, if_neg (by omega)])
      c.cells.length 0 n (List.replicate pos.length false, List.replicate pos.length false) (by omega) (by omega) ⟨List.length_replicate, List.length_replicate, fun j => by rw [if_neg (by omega)]; exact z j, fun j => by rw [if_neg (by omega)]; exact z j⟩
    obtain ⟨o2, o3⟩ := s'
    have h1 : o2.length = pos.length := h1
    have h2 : o3.length = pos.length := h2
    have e2 : o2 = pB c pos := ext_getD (by rw [h1, pB_len]) fun j hj => by
      have h3 : o2.getD j false = _ := h3 j
      rw [h3, if_pos (by omega)]
    have e3 : o3 = cB c pos := ext_getD (by rw [h2, cB_len]) fun j hj => by
      have h4 : o3.getD j false = _ := h4 j
      rw [h4, if_pos (by omega)]
    rw [← e2, ← e3]
    exact e
  have start : ∀ n, nodesW n c q pos pos.length lost = nodesW_m c q pos pos.length lost n (.l1 0 (List.replicate pos.length false) (List.replicate pos.length false)) := fun n => by
    unfold nodesW nodesW_l0
    rw [if_pos ⟨rfl, by omega, by omega⟩]
  refine PEv.eq (PEv.step (c.cells.length + 1) (g := fun n => (indexB n (cB c pos) true).bind fun y1 => bif (decide (y1 < 0)) then (if pos.length = (pB c pos).length then some (pB c pos, cB c pos, false, lost) else none) else (if pos.length = (pB c pos).length then (cloneB n (pB c pos)).bind fun y2 => (component n q.nbrs (pB c pos) y1).bind fun y3 => nodesW_m c q pos pos.length lost n (.l2 (pB c pos) y2.length y3.1 (y3.1.length : Int) 0 (cB c pos) y2) else none)) (fun n => ?_) ?_) start
  · rw [show n + (c.cells.length + 1) = n + 1 + c.cells.length by omega, first]
    show nodesW_l1 n (nodesW_m c q pos pos.length lost n) c q pos pos.length lost (c.cells.length : Int) (pB c pos) (cB c pos) = _
    unfold nodesW_l1
    rw [decide_eq_false (by omega), cond_false, if_pos cB_len.symm]
  · obtain ⟨r', h1, h2⟩ := indexB_ev (l := cB c pos) (by rw [cB_len]; exact hl1)
    obtain rfl := hF.uniq h2
    refine PEv.bind h1 ?_
    by_cases hr0 : 0 ≤ r
    · have hcl : ∀ n, cloneB n (pB c pos) = some (pB c pos) := fun n => by
        have h0 := W.l0
        have h3 := pB_len (c := c) (pos := pos)
        unfold cloneB cloneB_l0
        rw [if_pos ⟨by omega, trivial, ⟨rfl, rfl⟩, by rw [← L]; simp only [List.length_nil]; omega⟩, if_pos (by simp)]; rfl
      obtain ⟨hr1, hr2⟩ : r < (pos.length : Int) ∧ (cB c pos).getD r.toNat false = true := by
        rcases hF with ⟨h, _⟩ | ⟨_, h, h', _⟩
        · omega
        · rw [cB_len] at h; exact ⟨h, h'⟩
      have hpr := W.cp (by omega) hr2
      refine PEv.eq (PEv.bindU (component_ev W.g (by rw [pB_len]; exact hgl.symm) hr0 (by omega) hpr) (b := fun n y3 => nodesW_m c q pos pos.length lost n (.l2 (pB c pos) (pB c pos).length y3.1 (y3.1.length : Int) 0 (cB c pos) (pB c pos))) ⟨600, fun n hn x hx => nodes_far W hL hr0 hF hx.2.1 hx.2.2 hn⟩) fun n => ?_
      rw [decide_eq_false (by omega), cond_false, if_pos pB_len.symm, hcl, Option.bind_some]
    · refine Ev.p (r := (pB c pos, cB c pos, false, lost)) (Ev.now fun n => ?_) ⟨rfl, rfl, (decide_eq_false hr0).symm, hL.id' fun j s _ _ => ⟨fun h => ?_, fun h => h.elim⟩⟩
      · rw [decide_eq_true (by omega), cond_true, if_pos pB_len.symm]
      · obtain ⟨_, _, r', h3, h4, _⟩ := h
        rw [hF.uniq h4] at hr0
        exact hr0 h3
/-- What the constraint of connection removes. -/
def connD (c : ConsD) (q : ProbD) (pos : List Int) (a s : Nat) : Prop := farD c q pos a s ∨ ((pB c pos).getD a false = true ∧ (cB c pos).getD a false = false ∧ Sp q.nbrs (pB c pos) (cB c pos) (a : Int) ∧ tb c.set s = false)
theorem conn_ev (W : WorkAll c q pos) (hL : LostAt pos lost (fun _ _ => False) lost) : ∃ l, Ev (fun n => connW n c q pos pos.length lost) (true, l) ∧ LostAt pos lost (connD c q pos) l := by
  have hl1 := W.l1
  have hgl := W.gl
  obtain ⟨r, _, hF⟩ := indexB_ev (l := cB c pos) (by rw [cB_len]; exact hl1)
  obtain ⟨l0, h1, h2⟩ := nodes_ev W hL hF
  suffices H : PEv (fun n => connW_m c q pos pos.length lost n (.l1 (pB c pos) (cB c pos) (decide (0 ≤ r)) ((pB c pos).length : Int) 0 l0)) (fun x => x.1 = true ∧ LostAt pos lost (connD c q pos) x.2) by
    obtain ⟨x, ⟨h3, h4⟩, h5⟩ := (PEv.bind h1 (b := fun n y1 => connW_m c q pos pos.length lost n (.l1 y1.1 y1.2.1 y1.2.2.1 (y1.1.length : Int) 0 y1.2.2.2)) H).ev fun x y hx hy => by
      obtain ⟨x1, x2⟩ := x
      obtain ⟨y1, y2⟩ := y
      have e1 : x1 = true := hx.1
      have e2 : y1 = true := hy.1
      have e3 : x2 = y2 := hx.2.unique hy.2
      rw [e1, e2, e3]
    obtain ⟨x1, x2⟩ := x
    have h3 : x1 = true := h3
    subst h3
    exact ⟨x2, h5, h4⟩
  obtain ⟨N, hN⟩ := PEv.range (F := fun (i : Nat) n => if (pB c pos).getD i false = true then splits n q.nbrs (pB c pos) (cB c pos) i else some (false, 0)) (A := fun i x => (pB c pos).getD i false = true → x.2 = 0 ∧ (x.1 = true ↔ Sp q.nbrs (pB c pos) (cB c pos) i)) pos.length fun i hi => by
    by_cases h : (pB c pos).getD i false = true
    · refine ((splits_ev W.g (by rw [pB_len]; exact hgl.symm) (by rw [cB_len]; exact hgl.symm) (a := i) (by omega) h).mono fun x hx _ => hx).eq fun n => ?_
      rw [if_pos h]
    · exact Ev.p (r := (false, 0)) (Ev.now fun n => by rw [if_neg h]) fun h' => absurd h' h
  refine ⟨N + pos.length + 1, fun n hn => ?_⟩
  have T := loop0 (fun n (o1 : List Int) i => connW_m c q pos pos.length lost n (.l1 (pB c pos) (cB c pos) (decide (0 ≤ r)) ((pB c pos).length : Int) i o1)) pos.length (N + 1)
    (fun i o1 => LostAt pos lost (fun a s => farD c q pos a s ∨ (a < i ∧ connD c q pos a s)) o1) (fun n i o1 hn0 hi hI => ?_) (n := n) (s := l0) (by omega) (h2.id' fun j s _ _ => ⟨fun h => h.elim id fun h => absurd h.1 (Nat.not_lt_zero j), .inl⟩)
  · obtain ⟨n3, o1, hn3, _, e2, hL1⟩ := T
    obtain ⟨n4, rfl⟩ : ∃ n4, n3 = n4 + 1 := ⟨n3 - 1, by omega⟩
    refine ⟨(true, o1), Eq.trans e2 ?_, rfl, hL1.id' fun j s hj _ => ⟨fun h => .inr ⟨hj, h⟩, fun h => h.elim .inl fun h => h.2⟩⟩
    show connW_l1 n4 (connW_m c q pos pos.length lost n4) c q pos pos.length lost (pB c pos) (cB c pos) (decide (0 ≤ r)) ((pB c pos).length : Int) (pos.length : Int) o1 = _
    unfold connW_l1
    rw [pB_len, decide_eq_false (p := ((pos.length : Nat) : Int) < ((pos.length : Nat) : Int)) (by omega), cond_false]
  · show ∃ s', connW_l1 n (connW_m c q pos pos.length lost n) c q pos pos.length lost (pB c pos) (cB c pos) (decide (0 ≤ r)) ((pB c pos).length : Int) (i : Int) o1 = _ ∧ _
    unfold connW_l1
    simp only [Int.toNat_natCast]
    have r1 : R64 ((i : Int) + 1) := R64_iff.2 ⟨by omega, by omega⟩
    have lp : (pB c pos).length = pos.length := pB_len
    have lc : (cB c pos).length = pos.length := cB_len
    rw [lp, lc, decide_eq_true (p := (i : Int) < ((pos.length : Nat) : Int)) (by omega), cond_true]
    have skip : (∀ s, ¬ ((pB c pos).getD i false = true ∧ (cB c pos).getD i false = false ∧ Sp q.nbrs (pB c pos) (cB c pos) (i : Int) ∧ tb c.set s = false)) → LostAt pos lost (fun a s => farD c q pos a s ∨ (a < i + 1 ∧ connD c q pos a s)) o1 := fun hno => hI.id' fun j s hj _ => by
      constructor
      · rintro (h | ⟨h, h3⟩)
        · exact .inl h
        · rcases Nat.lt_succ_iff_lt_or_eq.1 h with h | rfl
          · exact .inr ⟨h, h3⟩
          · exact h3.elim .inl fun h4 => absurd h4 (hno s)
      · rintro (h | ⟨h, h3⟩)
        · exact .inl h
        · exact .inr ⟨by omega, h3⟩
    by_cases hr0 : 0 ≤ r
    · rw [decide_eq_true hr0, Bool.not_true, cond_false, if_pos ⟨by omega, by omega⟩]
      cases hp : (pB c pos).getD i false
      · rw [Bool.not_false, cond_true, if_pos r1]
        exact ⟨o1, rfl, skip fun s h => by rw [hp] at h; cases h.1⟩
      · rw [Bool.not_true, cond_false, if_pos ⟨by omega, by omega⟩]
        cases hc : (cB c pos).getD i false
        · obtain ⟨x, e1, hx⟩ := hN n (by omega) i hi
          have e1 : (if (pB c pos).getD i false = true then splits n q.nbrs (pB c pos) (cB c pos) i else some (false, 0)) = some x := e1
          rw [if_pos hp] at e1
          obtain ⟨_, hx⟩ := hx hp
          rw [cond_false, e1, Option.bind_some]
          cases hb : x.1
          · rw [cond_false, if_pos r1]
            exact ⟨o1, rfl, skip fun s h => by rw [hx.2 h.2.2.1] at hb; cases hb⟩
          · obtain ⟨l', e, h3⟩ := hI.only (c := c) (q := q) (D' := fun a s => farD c q pos a s ∨ (a < i + 1 ∧ connD c q pos a s)) (cell := (i : Int)) (by omega) (by omega) fun j s hj _ => by
              constructor
              · rintro (h | ⟨h, h3⟩)
                · exact .inl (.inl h)
                · rcases Nat.lt_succ_iff_lt_or_eq.1 h with h | rfl
                  · exact .inl (.inr ⟨h, h3⟩)
                  · exact h3.elim (fun h => .inl (.inl h)) fun h4 => .inr ⟨rfl, h4.2.2.2⟩
              · rintro ((h | ⟨h, h3⟩) | ⟨h, h3⟩)
                · exact .inl h
                · exact .inr ⟨by omega, h3⟩
                · obtain rfl : j = i := by omega
                  exact .inr ⟨by omega, .inr ⟨hp, hc, hx.1 hb, h3⟩⟩
            rw [cond_true, e, Option.bind_some, if_pos r1]
            exact ⟨l', rfl, h3⟩
        · rw [cond_true, if_pos r1]
          exact ⟨o1, rfl, skip fun s h => by rw [hc] at h; cases h.2.1⟩
    · rw [decide_eq_false hr0, Bool.not_false, cond_true, if_pos r1]
      refine ⟨o1, rfl, skip fun s h => ?_⟩
      obtain ⟨hp, _, ⟨u, v, _, _, h3, _, h4, _⟩, _⟩ := h
      rcases hF with ⟨_, hF⟩ | ⟨h5, _⟩
      · have := h4.rng W.g.gr (by omega) (by omega)
        rw [hF u.toNat (by rw [cB_len]; omega)] at h3; cases h3
      · exact hr0 h5
/-- How many neighbors are in a set. -/
def deg (g : List (List Int)) (S : List Bool) (v : Int) : Nat := (nb g v).countP fun x => S.getD x.toNat false
def loopOk (c : ConsD) (q : ProbD) (pos : List Int) : Prop := ∀ v, v < pos.length → (cB c pos).getD v false = true → 2 ≤ deg q.nbrs (pB c pos) v ∧ deg q.nbrs (cB c pos) v ≤ 2
def nbD (c : ConsD) (q : ProbD) (pos : List Int) (v a s : Nat) : Prop := (cB c pos).getD v false = true ∧ (a : Int) ∈ nb q.nbrs v ∧ (pB c pos).getD a false = true ∧ ((deg q.nbrs (pB c pos) v = 2 ∧ tb c.set s = false) ∨ (deg q.nbrs (cB c pos) v = 2 ∧ (cB c pos).getD a false = false ∧ tb c.set s = true))
def loopD (c : ConsD) (q : ProbD) (pos : List Int) (a s : Nat) : Prop := farD c q pos a s ∨ ∃ v, v < pos.length ∧ nbD c q pos v a s
section
variable {P C : List Bool} {o1 : List Int} {row : List Int} {x20 x21 : Int}
def nrF (P : List Bool) (o2 : List Int) (v : Int) : List Int := bif P.getD v.toNat false then o2 ++ [v] else o2
def mnF (C : List Bool) (x : Int) (v : Int) : Int := bif C.getD v.toNat false then x + 1 else x
theorem nrF_all : ∀ (l o2 : List Int), l.foldl (nrF P) o2 = o2 ++ l.filter fun x => P.getD x.toNat false
  | [], o2 => by simp
  | v :: l, o2 => by
    rw [List.foldl_cons, nrF_all l]
    unfold nrF
    cases h : P.getD v.toNat false
    · rw [cond_false, List.filter_cons_of_neg (by rw [h]; decide)]
    · rw [cond_true, List.filter_cons_of_pos (p := fun x => P.getD (Int.toNat x) false) h, List.append_assoc]; rfl
theorem mnF_all : ∀ (l : List Int) (x : Int), l.foldl (mnF C) x = x + (l.countP fun x => C.getD x.toNat false : Nat)
  | [], x => by simp
  | v :: l, x => by
    rw [List.foldl_cons, mnF_all l]
    unfold mnF
    cases h : C.getD v.toNat false
    · rw [cond_false, List.countP_cons_of_neg (by rw [h]; decide)]
    · rw [cond_true, List.countP_cons_of_pos (p := fun x => C.getD (Int.toNat x) false) h]; omega
/-- The state while the neighbors of a cell are looked at. -/
def stN (P C : List Bool) (x20 x21 : Int) (row o1 o2 : List Int) (x8 j : Int) : loopWPt := match o2 with
  | [] => .l2 P C x8 x20 x21 row (row.length : Int) j o1
  | a :: l => .l3 P C (a :: l).length x8 x20 x21 row (row.length : Int) j o1 (a :: l)
theorem stN_ne {o2 : List Int} {x8 j : Int} (h : o2 ≠ []) : stN P C x20 x21 row o1 o2 x8 j = .l3 P C o2.length x8 x20 x21 row (row.length : Int) j o1 o2 := by
  cases o2 with
  | nil => exact absurd rfl h
  | cons a l => rfl
theorem near_step {n j : Nat} {x8 : Int} {o2 : List Int} (hP : P.length = pos.length) (hC : C.length = pos.length) (hr : ∀ u ∈ row, 0 ≤ u ∧ u < (pos.length : Int)) (hl : row.length ≤ 256) (hj : j < row.length) (ho : o2.length ≤ 256) (h8 : 0 ≤ x8 ∧ x8 ≤ 256) :
    loopW_m c q pos pos.length lost (n + 1) (stN P C x20 x21 row o1 o2 x8 j) = loopW_m c q pos pos.length lost n (stN P C x20 x21 row o1 (nrF P o2 (row.getD j 0)) (mnF C x8 (row.getD j 0)) ((j : Int) + 1)) := by
  have L : (1000000000000 : Nat) = LIM := rfl
  have hx : row.getD j 0 ∈ row := by rw [List.getD_eq_getElem?_getD, List.getElem?_eq_getElem hj]; exact List.getElem_mem hj
  have hxr := hr _ hx
  have r1 : R64 ((j : Int) + 1) := R64_iff.2 ⟨by omega, by omega⟩
  have r8 : R64 (x8 + 1) := R64_iff.2 ⟨by omega, by omega⟩
  cases o2 with
  | nil =>
    show loopW_l2 n (loopW_m c q pos pos.length lost n) c q pos pos.length lost P C x8 x20 x21 row (row.length : Int) (j : Int) o1 = _
    unfold loopW_l2 nrF mnF
    simp only [Int.toNat_natCast]
    rw [decide_eq_true (by omega), cond_true, if_pos ⟨⟨by omega, by omega⟩, by omega, by omega⟩]
    cases hp : P.getD (row.getD j 0).toNat false <;> cases hc : C.getD (row.getD j 0).toNat false
    · rw [cond_false, cond_false, cond_false, if_pos ⟨by omega, by omega⟩, cond_false, if_pos r1]; rfl
    · rw [cond_false, cond_false, cond_true, if_pos ⟨by omega, by omega⟩, cond_true, if_pos ⟨r8, r1⟩]; rfl
    · rw [cond_true, cond_true, cond_false, if_pos ⟨⟨⟨trivial, rfl⟩, by rw [List.length_singleton]; omega, by rw [List.length_singleton, ← L]; omega⟩, by omega, by omega⟩, cond_false, if_pos r1]; rfl
    · rw [cond_true, cond_true, cond_true, if_pos ⟨⟨⟨trivial, rfl⟩, by rw [List.length_singleton]; omega, by rw [List.length_singleton, ← L]; omega⟩, by omega, by omega⟩, cond_true, if_pos ⟨r8, r1⟩]; rfl
  | cons a l =>
    have hne : nrF P (a :: l) (row.getD j 0) ≠ [] := by unfold nrF; cases P.getD (row.getD j 0).toNat false <;> simp
    rw [stN_ne hne]
    show loopW_l3 n (loopW_m c q pos pos.length lost n) c q pos pos.length lost P C (a :: l).length x8 x20 x21 row (row.length : Int) (j : Int) o1 (a :: l) = _
    unfold loopW_l3 nrF mnF
    simp only [Int.toNat_natCast]
    rw [decide_eq_true (by omega), cond_true, if_pos ⟨⟨by omega, by omega⟩, by omega, by omega⟩]
    cases hp : P.getD (row.getD j 0).toNat false <;> cases hc : C.getD (row.getD j 0).toNat false
    · rw [cond_false, cond_false, cond_false, if_pos ⟨by omega, by omega⟩, cond_false, if_pos r1]
    · rw [cond_false, cond_false, cond_true, if_pos ⟨by omega, by omega⟩, cond_true, if_pos ⟨r8, r1⟩]
    · rw [cond_true, cond_true, cond_false, if_pos ⟨⟨⟨trivial, rfl⟩, ⟨trivial, trivial⟩, by rw [List.length_singleton, ← L]; omega⟩, by omega, by omega⟩, cond_false, if_pos r1, List.length_append]
    · rw [cond_true, cond_true, cond_true, if_pos ⟨⟨⟨trivial, rfl⟩, ⟨trivial, trivial⟩, by rw [List.length_singleton, ← L]; omega⟩, by omega, by omega⟩, cond_true, if_pos ⟨r8, r1⟩, List.length_append]
theorem near_all (hP : P.length = pos.length) (hC : C.length = pos.length) (hr : ∀ u ∈ row, 0 ≤ u ∧ u < (pos.length : Int)) (hl : row.length ≤ 256) : ∀ (k j n : Nat) (o2 : List Int) (x8 : Int), j + k = row.length → o2.length ≤ j → 0 ≤ x8 ∧ x8 ≤ (j : Int) →
    loopW_m c q pos pos.length lost (n + k) (stN P C x20 x21 row o1 o2 x8 j) = loopW_m c q pos pos.length lost n (stN P C x20 x21 row o1 ((row.drop j).foldl (nrF P) o2) ((row.drop j).foldl (mnF C) x8) (row.length : Int))
  | 0, j, n, o2, x8, e, _, _ => by
    have e : j = row.length := by omega
    subst e
    rw [List.drop_length]; rfl
  | k + 1, j, n, o2, x8, e, h2, h8 => by
    have hj : j < row.length := by omega
    have e2 : row.drop j = row.getD j 0 :: row.drop (j + 1) := by
      rw [List.drop_eq_getElem_cons hj, List.getD_eq_getElem?_getD, List.getElem?_eq_getElem hj]; rfl
    rw [← Nat.add_assoc, near_step hP hC hr hl hj (by omega) (by omega), e2, List.foldl_cons, List.foldl_cons]
    have h3 : (nrF P o2 (row.getD j 0)).length ≤ j + 1 := by
      unfold nrF
      cases P.getD (row.getD j 0).toNat false
      · rw [cond_false]; omega
      · rw [cond_true, List.length_append, List.length_singleton]; omega
    have h4 : 0 ≤ mnF C x8 (row.getD j 0) ∧ mnF C x8 (row.getD j 0) ≤ ((j + 1 : Nat) : Int) := by
      unfold mnF
      cases C.getD (row.getD j 0).toNat false
      · rw [cond_false]; omega
      · rw [cond_true]; omega
    exact near_all hP hC hr hl k (j + 1) n _ _ (by omega) h3 h4
/-- The cells around one lose what they must. -/
theorem around {D : Nat → Nat → Prop} {near : List Int} {x8 : Int} {v : Nat} {n : Nat} (W : WorkAll c q pos) (hD : LostAt pos lost D o1) (hnr : ∀ u ∈ near, 0 ≤ u ∧ u < (pos.length : Int)) (hnl : near.length ≤ 256) (hv : v < pos.length) :
    ∃ l', loopW_m c q pos pos.length lost (n + 1 + near.length) (.l4 (pB c pos) (cB c pos) near.length x8 x20 (v : Int) near.length (near.length : Int) 0 o1 near) = loopW_m c q pos pos.length lost n (.l1 (pB c pos) (cB c pos) x20 ((v : Int) + 1) l') ∧
      LostAt pos lost (fun a s => D a s ∨ ((a : Int) ∈ near ∧ ((near.length = 2 ∧ tb c.set s = false) ∨ (x8 = 2 ∧ (cB c pos).getD a false = false ∧ tb c.set s = true)))) l' := by
  have hl1 := W.l1
  have lc : (cB c pos).length = pos.length := cB_len
  obtain ⟨l', e, h⟩ := loopE (fun n (s : List Int) i => loopW_m c q pos pos.length lost n (.l4 (pB c pos) (cB c pos) near.length x8 x20 (v : Int) near.length (near.length : Int) i s near)) near.length 0
    (fun i s => LostAt pos lost (fun a t => D a t ∨ ((a : Int) ∈ near.take i ∧ ((near.length = 2 ∧ tb c.set t = false) ∨ (x8 = 2 ∧ (cB c pos).getD a false = false ∧ tb c.set t = true)))) s)
    (fun n i s _ hi hI => by
      have hx : near.getD i 0 ∈ near := by rw [List.getD_eq_getElem?_getD, List.getElem?_eq_getElem hi]; exact List.getElem_mem hi
      have hxr := hnr _ hx
      have e3 : near.take (i + 1) = near.take i ++ [near.getD i 0] := by
        rw [List.take_succ_eq_append_getElem hi, List.getD_eq_getElem?_getD, List.getElem?_eq_getElem hi]; rfl
      have r1 : R64 ((i : Int) + 1) := R64_iff.2 ⟨by omega, by omega⟩
      have mem : ∀ a : Nat, (a : Int) ∈ near.take (i + 1) ↔ (a : Int) ∈ near.take i ∨ (a : Int) = near.getD i 0 := fun a => by rw [e3, List.mem_append, List.mem_singleton]
      obtain ⟨l2, f2, hL2⟩ := hI.only (c := c) (q := q) (cell := near.getD i 0) hxr.1 hxr.2 (D' := fun a t => (D a t ∨ ((a : Int) ∈ near.take i ∧ ((near.length = 2 ∧ tb c.set t = false) ∨ (x8 = 2 ∧ (cB c pos).getD a false = false ∧ tb c.set t = true)))) ∨ ((a : Int) = near.getD i 0 ∧ tb c.set t = false)) fun j s _ _ => Iff.rfl
      obtain ⟨l3, f3, hL3⟩ := hL2.lose (c := c) (q := q) (cell := near.getD i 0) (ss := c.set) hxr.1 hxr.2 (D' := fun a t => ((D a t ∨ ((a : Int) ∈ near.take i ∧ ((near.length = 2 ∧ tb c.set t = false) ∨ (x8 = 2 ∧ (cB c pos).getD a false = false ∧ tb c.set t = true)))) ∨ ((a : Int) = near.getD i 0 ∧ tb c.set t = false)) ∨ ((a : Int) = near.getD i 0 ∧ tb c.set t = true)) fun j s _ _ => Iff.rfl
      obtain ⟨l4, f4, hL4⟩ := hI.lose (c := c) (q := q) (cell := near.getD i 0) (ss := c.set) hxr.1 hxr.2 (D' := fun a t => (D a t ∨ ((a : Int) ∈ near.take i ∧ ((near.length = 2 ∧ tb c.set t = false) ∨ (x8 = 2 ∧ (cB c pos).getD a false = false ∧ tb c.set t = true)))) ∨ ((a : Int) = near.getD i 0 ∧ tb c.set t = true)) fun j s _ _ => Iff.rfl
      show ∃ s', loopW_l4 n (loopW_m c q pos pos.length lost n) c q pos pos.length lost (pB c pos) (cB c pos) near.length x8 x20 (v : Int) near.length (near.length : Int) (i : Int) s near = _ ∧ _
      unfold loopW_l4
      simp only [Int.toNat_natCast, Nat.zero_add]
      rw [decide_eq_true (by omega), cond_true, if_pos ⟨⟨by omega, by omega⟩, hi⟩]
      have toN : ∀ a : Nat, (a : Int) = near.getD i 0 → (near.getD i 0).toNat = a := fun a h => by omega
      by_cases h2 : near.length = 2
      · have b2 : (((near.length : Nat) : Int) == 2) = true := by rw [h2]; rfl
        rw [b2, cond_true, f2, Option.bind_some]
        by_cases h8 : x8 = 2
        · have b8 : (x8 == 2) = true := by rw [h8]; rfl
          rw [b8, cond_true, if_pos ⟨by omega, by omega⟩]
          cases hc : (cB c pos).getD (near.getD i 0).toNat false
          · rw [Bool.not_false, cond_true, f3, Option.bind_some, if_pos r1]
            refine ⟨l3, rfl, hL3.id' fun a t _ _ => ?_⟩
            rw [mem]
            constructor
            · rintro (h | ⟨h | h, h3 | ⟨h3, h4, h5⟩⟩)
              · exact .inl (.inl (.inl h))
              · exact .inl (.inl (.inr ⟨h, .inl h3⟩))
              · exact .inl (.inl (.inr ⟨h, .inr ⟨h3, h4, h5⟩⟩))
              · exact .inl (.inr ⟨h, h3.2⟩)
              · exact .inr ⟨h, h5⟩
            · rintro (((h | ⟨h, h3⟩) | ⟨h, h3⟩) | ⟨h, h3⟩)
              · exact .inl h
              · exact .inr ⟨.inl h, h3⟩
              · exact .inr ⟨.inr h, .inl ⟨h2, h3⟩⟩
              · exact .inr ⟨.inr h, .inr ⟨h8, by rw [← toN a h]; exact hc, h3⟩⟩
          · rw [Bool.not_true, cond_false, if_pos r1]
            refine ⟨l2, rfl, hL2.id' fun a t _ _ => ?_⟩
            rw [mem]
            constructor
            · rintro (h | ⟨h | h, h3 | ⟨h3, h4, h5⟩⟩)
              · exact .inl (.inl h)
              · exact .inl (.inr ⟨h, .inl h3⟩)
              · exact .inl (.inr ⟨h, .inr ⟨h3, h4, h5⟩⟩)
              · exact .inr ⟨h, h3.2⟩
              · rw [← toN a h, hc] at h4; cases h4
            · rintro ((h | ⟨h, h3⟩) | ⟨h, h3⟩)
              · exact .inl h
              · exact .inr ⟨.inl h, h3⟩
              · exact .inr ⟨.inr h, .inl ⟨h2, h3⟩⟩
        · have b8 : (x8 == 2) = false := beq_eq_false_iff_ne.2 h8
          rw [b8, cond_false, if_pos r1]
          refine ⟨l2, rfl, hL2.id' fun a t _ _ => ?_⟩
          rw [mem]
          constructor
          · rintro (h | ⟨h | h, h3 | ⟨h3, h4, h5⟩⟩)
            · exact .inl (.inl h)
            · exact .inl (.inr ⟨h, .inl h3⟩)
            · exact .inl (.inr ⟨h, .inr ⟨h3, h4, h5⟩⟩)
            · exact .inr ⟨h, h3.2⟩
            · exact absurd h3 h8
          · rintro ((h | ⟨h, h3⟩) | ⟨h, h3⟩)
            · exact .inl h
            · exact .inr ⟨.inl h, h3⟩
            · exact .inr ⟨.inr h, .inl ⟨h2, h3⟩⟩
      · have b2 : (((near.length : Nat) : Int) == 2) = false := beq_eq_false_iff_ne.2 (by omega)
        rw [b2, cond_false]
        by_cases h8 : x8 = 2
        · have b8 : (x8 == 2) = true := by rw [h8]; rfl
          rw [b8, cond_true, if_pos ⟨by omega, by omega⟩]
          cases hc : (cB c pos).getD (near.getD i 0).toNat false
          · rw [Bool.not_false, cond_true, f4, Option.bind_some, if_pos r1]
            refine ⟨l4, rfl, hL4.id' fun a t _ _ => ?_⟩
            rw [mem]
            constructor
            · rintro (h | ⟨h | h, h3 | ⟨h3, h4, h5⟩⟩)
              · exact .inl (.inl h)
              · exact .inl (.inr ⟨h, .inl h3⟩)
              · exact .inl (.inr ⟨h, .inr ⟨h3, h4, h5⟩⟩)
              · exact absurd h3.1 h2
              · exact .inr ⟨h, h5⟩
            · rintro ((h | ⟨h, h3⟩) | ⟨h, h3⟩)
              · exact .inl h
              · exact .inr ⟨.inl h, h3⟩
              · exact .inr ⟨.inr h, .inr ⟨h8, by rw [← toN a h]; exact hc, h3⟩⟩
          · rw [Bool.not_true, cond_false, if_pos r1]
            refine ⟨s, rfl, hI.id' fun a t _ _ => ?_⟩
            rw [mem]
            constructor
            · rintro (h | ⟨h | h, h3 | ⟨h3, h4, h5⟩⟩)
              · exact .inl h
              · exact .inr ⟨h, .inl h3⟩
              · exact .inr ⟨h, .inr ⟨h3, h4, h5⟩⟩
              · exact absurd h3.1 h2
              · rw [← toN a h, hc] at h4; cases h4
            · rintro (h | ⟨h, h3⟩)
              · exact .inl h
              · exact .inr ⟨.inl h, h3⟩
        · have b8 : (x8 == 2) = false := beq_eq_false_iff_ne.2 h8
          rw [b8, cond_false, if_pos r1]
          refine ⟨s, rfl, hI.id' fun a t _ _ => ?_⟩
          rw [mem]
          constructor
          · rintro (h | ⟨h | h, h3 | ⟨h3, h4, h5⟩⟩)
            · exact .inl h
            · exact .inr ⟨h, .inl h3⟩
            · exact .inr ⟨h, .inr ⟨h3, h4, h5⟩⟩
            · exact absurd h3.1 h2
            · exact absurd h3 h8
          · rintro (h | ⟨h, h3⟩)
            · exact .inl h
            · exact .inr ⟨.inl h, h3⟩)
    near.length 0 (n + 1) o1 (by omega) (by omega) (hD.id' fun a t _ _ => by simp)
  refine ⟨l', Eq.trans e ?_, h.id' fun a t _ _ => by rw [List.take_length]⟩
  show loopW_l4 n (loopW_m c q pos pos.length lost n) c q pos pos.length lost (pB c pos) (cB c pos) near.length x8 x20 (v : Int) near.length (near.length : Int) (near.length : Int) l' near = _
  unfold loopW_l4
  rw [decide_eq_false (by omega), cond_false, if_pos (R64_iff.2 ⟨by omega, by omega⟩)]
end
/-- What the rule of loops answers. -/
def LoopP (c : ConsD) (q : ProbD) (pos lost : List Int) (x : Bool × List Int) : Prop := (x.1 = true ↔ loopOk c q pos) ∧ (x.1 = true → LostAt pos lost (loopD c q pos) x.2)
theorem loop_from (W : WorkAll c q pos) : ∀ (k v : Nat) (o1 : List Int), v + k = pos.length → (∀ u, u < v → (cB c pos).getD u false = true → 2 ≤ deg q.nbrs (pB c pos) u ∧ deg q.nbrs (cB c pos) u ≤ 2) → LostAt pos lost (fun a s => farD c q pos a s ∨ ∃ u, u < v ∧ nbD c q pos u a s) o1 →
    PEv (fun n => loopW_m c q pos pos.length lost n (.l1 (pB c pos) (cB c pos) (pos.length : Int) (v : Int) o1)) (LoopP c q pos lost) := by
  have hl1 := W.l1
  have hgl := W.gl
  have lp : (pB c pos).length = pos.length := pB_len
  have lc : (cB c pos).length = pos.length := cB_len
  intro k
  induction k with
  | zero =>
    intro v o1 e hok hL
    have e : v = pos.length := by omega
    subst e
    refine Ev.p (r := (true, o1)) ⟨1, fun n hn => ?_⟩ ⟨⟨fun _ v hv hc => hok v hv hc, fun _ => rfl⟩, fun _ => hL⟩
    obtain ⟨n, rfl⟩ : ∃ k, n = k + 1 := ⟨n - 1, by omega⟩
    show loopW_l1 n (loopW_m c q pos pos.length lost n) c q pos pos.length lost (pB c pos) (cB c pos) (pos.length : Int) (pos.length : Int) o1 = _
    unfold loopW_l1
    rw [decide_eq_false (by omega), cond_false]
  | succ k ih =>
    intro v o1 e hok hL
    have hv : v < pos.length := by omega
    have r1 : R64 ((v : Int) + 1) := R64_iff.2 ⟨by omega, by omega⟩
    have U : ∀ n, loopW_m c q pos pos.length lost (n + 1) (.l1 (pB c pos) (cB c pos) (pos.length : Int) (v : Int) o1) = bif (cB c pos).getD v false then loopW_m c q pos pos.length lost n (stN (pB c pos) (cB c pos) (pos.length : Int) (v : Int) (nb q.nbrs v) o1 [] 0 0) else loopW_m c q pos pos.length lost n (.l1 (pB c pos) (cB c pos) (pos.length : Int) ((v : Int) + 1) o1) := fun n => by
      show loopW_l1 n (loopW_m c q pos pos.length lost n) c q pos pos.length lost (pB c pos) (cB c pos) (pos.length : Int) (v : Int) o1 = _
      unfold loopW_l1
      rw [decide_eq_true (by omega), cond_true, if_pos ⟨by omega, by omega⟩, Int.toNat_natCast, if_pos r1, if_pos ⟨by omega, by omega⟩]
      cases (cB c pos).getD v false <;> rfl
    cases hc : (cB c pos).getD v false
    · refine PEv.step 1 (fun n => ?_) (ih (v + 1) o1 (by omega) (fun u hu huc => ?_) (hL.id' fun a s _ _ => ?_))
      · rw [U, hc, cond_false]; rfl
      · rcases Nat.lt_succ_iff_lt_or_eq.1 hu with hu | rfl
        · exact hok u hu huc
        · rw [hc] at huc; cases huc
      · constructor
        · rintro (h | ⟨u, hu, h⟩)
          · exact .inl h
          · rcases Nat.lt_succ_iff_lt_or_eq.1 hu with hu | rfl
            · exact .inr ⟨u, hu, h⟩
            · rw [h.1] at hc; cases hc
        · rintro (h | ⟨u, hu, h⟩)
          · exact .inl h
          · exact .inr ⟨u, by omega, h⟩
    · have hrow := W.g.gr.row (v : Int) (by omega) (by omega)
      have hrng : ∀ u ∈ nb q.nbrs (v : Int), 0 ≤ u ∧ u < (pos.length : Int) := fun u hu => by
        have := W.g.gr.rng (v : Int) (by omega) (by omega) u hu
        omega
      have A := fun n => near_all (c := c) (q := q) (lost := lost) (o1 := o1) (x20 := (pos.length : Int)) (x21 := (v : Int)) lp lc hrng hrow (nb q.nbrs v).length 0 n [] 0 (by omega) (by simp) ⟨Int.le_refl _, by omega⟩
      rw [List.drop_zero, nrF_all, mnF_all, List.nil_append, Int.zero_add] at A
      have dP : deg q.nbrs (pB c pos) v = ((nb q.nbrs v).filter fun x => (pB c pos).getD x.toNat false).length := List.countP_eq_length_filter
      have dC : deg q.nbrs (cB c pos) v = (nb q.nbrs v).countP fun x => (cB c pos).getD x.toNat false := rfl
      rw [← dC] at A
      generalize hnear : ((nb q.nbrs v).filter fun x => (pB c pos).getD x.toNat false) = near at A dP
      have hmem : ∀ u, u ∈ near ↔ u ∈ nb q.nbrs v ∧ (pB c pos).getD u.toNat false = true := fun u => by rw [← hnear, List.mem_filter]
      have hnl : near.length ≤ 256 := by
        have := List.length_filter_le (fun x => (pB c pos).getD x.toNat false) (nb q.nbrs v)
        rw [hnear] at this; omega
      have hnr : ∀ u ∈ near, 0 ≤ u ∧ u < (pos.length : Int) := fun u hu => hrng u ((hmem u).1 hu).1
      have U2 : ∀ n, loopW_m c q pos pos.length lost (n + ((nb q.nbrs v).length + 1)) (.l1 (pB c pos) (cB c pos) (pos.length : Int) (v : Int) o1) = loopW_m c q pos pos.length lost n (stN (pB c pos) (cB c pos) (pos.length : Int) (v : Int) (nb q.nbrs v) o1 near (deg q.nbrs (cB c pos) v : Int) ((nb q.nbrs v).length : Int)) := fun n => by
        rw [← Nat.add_assoc, U, hc, cond_true]
        exact A n
      refine PEv.step _ U2 ?_
      by_cases hbad : deg q.nbrs (pB c pos) v < 2 ∨ 2 < deg q.nbrs (cB c pos) v
      · have hno : ¬ loopOk c q pos := fun h => by have := h v hv hc; omega
        refine Ev.p (r := (false, o1)) ⟨1, fun n hn => ?_⟩ ⟨⟨fun h => (by cases h), fun h => absurd h hno⟩, fun h => (by cases h)⟩
        obtain ⟨n, rfl⟩ : ∃ k, n = k + 1 := ⟨n - 1, by omega⟩
        cases near with
        | nil =>
          show loopW_l2 n (loopW_m c q pos pos.length lost n) c q pos pos.length lost (pB c pos) (cB c pos) (deg q.nbrs (cB c pos) v : Int) (pos.length : Int) (v : Int) (nb q.nbrs v) ((nb q.nbrs v).length : Int) ((nb q.nbrs v).length : Int) o1 = _
          unfold loopW_l2
          rw [decide_eq_false (by omega), cond_false]
        | cons a l =>
          show loopW_l3 n (loopW_m c q pos pos.length lost n) c q pos pos.length lost (pB c pos) (cB c pos) (a :: l).length (deg q.nbrs (cB c pos) v : Int) (pos.length : Int) (v : Int) (nb q.nbrs v) ((nb q.nbrs v).length : Int) ((nb q.nbrs v).length : Int) o1 (a :: l) = _
          unfold loopW_l3
          rw [decide_eq_false (by omega), cond_false]
          by_cases h2 : (((a :: l).length : Nat) : Int) < 2
          · rw [decide_eq_true h2, cond_true]
          · rw [decide_eq_false h2, cond_false, decide_eq_true (by omega), cond_true]
      · have hne : near ≠ [] := by
          intro h
          rw [h, List.length_nil] at dP
          omega
        obtain ⟨l', e4, hL4⟩ := around (c := c) (q := q) (lost := lost) (o1 := o1) (near := near) (x20 := (pos.length : Int)) (x8 := (deg q.nbrs (cB c pos) v : Int)) (n := 0) W hL hnr hnl hv
        have e5 : ∀ n, ∃ l', loopW_m c q pos pos.length lost (n + 1 + near.length) (.l4 (pB c pos) (cB c pos) near.length (deg q.nbrs (cB c pos) v : Int) (pos.length : Int) (v : Int) near.length (near.length : Int) 0 o1 near) = loopW_m c q pos pos.length lost n (.l1 (pB c pos) (cB c pos) (pos.length : Int) ((v : Int) + 1) l') ∧ _ := fun n => around (c := c) (q := q) (lost := lost) (o1 := o1) (near := near) (x20 := (pos.length : Int)) (x8 := (deg q.nbrs (cB c pos) v : Int)) (n := n) W hL hnr hnl hv
        have IH := ih (v + 1) l' (by omega) (fun u hu huc => by
          rcases Nat.lt_succ_iff_lt_or_eq.1 hu with hu | rfl
          · exact hok u hu huc
          · omega) (hL4.id' fun a s _ _ => by
          constructor
          · rintro (h | ⟨u, hu, h⟩)
            · exact .inl (.inl h)
            · rcases Nat.lt_succ_iff_lt_or_eq.1 hu with hu | rfl
              · exact .inl (.inr ⟨u, hu, h⟩)
              · obtain ⟨h1, h2, h3, h4⟩ := h
                refine .inr ⟨(hmem _).2 ⟨h2, by rw [Int.toNat_natCast]; exact h3⟩, ?_⟩
                rcases h4 with ⟨h4, h5⟩ | ⟨h4, h5⟩
                · exact .inl ⟨by omega, h5⟩
                · exact .inr ⟨by omega, h5⟩
          · rintro ((h | ⟨u, hu, h⟩) | ⟨h1, h2⟩)
            · exact .inl h
            · exact .inr ⟨u, by omega, h⟩
            · obtain ⟨h3, h4⟩ := (hmem _).1 h1
              rw [Int.toNat_natCast] at h4
              refine .inr ⟨v, by omega, hc, h3, h4, ?_⟩
              rcases h2 with ⟨h2, h5⟩ | ⟨h2, h5⟩
              · exact .inl ⟨by omega, h5⟩
              · exact .inr ⟨by omega, h5⟩)
        refine PEv.step (1 + near.length + 1) (g := fun n => loopW_m c q pos pos.length lost n (.l1 (pB c pos) (cB c pos) (pos.length : Int) ((v : Int) + 1) l')) (fun n => ?_) IH
        obtain ⟨l2, e6, hL6⟩ := e5 n
        have : l2 = l' := hL6.unique hL4
        subst this
        rw [stN_ne hne, show n + (1 + near.length + 1) = n + 1 + near.length + 1 by omega, ← e6]
        show loopW_l3 (n + 1 + near.length) (loopW_m c q pos pos.length lost (n + 1 + near.length)) c q pos pos.length lost (pB c pos) (cB c pos) near.length (deg q.nbrs (cB c pos) v : Int) (pos.length : Int) (v : Int) (nb q.nbrs v) ((nb q.nbrs v).length : Int) ((nb q.nbrs v).length : Int) o1 near = _
        unfold loopW_l3
        rw [decide_eq_false (by omega), cond_false, decide_eq_false (by omega), cond_false, decide_eq_false (by omega), cond_false]
theorem loop_ev (W : WorkAll c q pos) (hL : LostAt pos lost (fun _ _ => False) lost) : PEv (fun n => loopW n c q pos pos.length lost) (LoopP c q pos lost) := by
  have hl1 := W.l1
  obtain ⟨r, _, hF⟩ := indexB_ev (l := cB c pos) (by rw [cB_len]; exact hl1)
  obtain ⟨l0, h1, h2⟩ := nodes_ev W hL hF
  refine PEv.bind h1 (b := fun n y1 => loopW_m c q pos pos.length lost n (.l1 y1.1 y1.2.1 (y1.2.1.length : Int) 0 y1.2.2.2)) ?_
  have := loop_from (q := q) W pos.length 0 l0 (by omega) (fun u hu => absurd hu (Nat.not_lt_zero u)) (h2.id' fun a s _ _ => ⟨fun h => h.elim id fun ⟨u, hu, _⟩ => absurd hu (Nat.not_lt_zero u), .inl⟩)
  refine this.eq fun n => ?_
  show loopW_m c q pos pos.length lost n (.l1 (pB c pos) (cB c pos) ((cB c pos).length : Int) 0 l0) = _
  rw [cB_len]; rfl
end
end Go.Proofs.YtekkngkphejfcaaDoor
namespace Go.Proofs.YtekkngkphejfcaaDoor
open Go.RowKit
set_option maxRecDepth 100000
set_option maxHeartbeats 40000000
theorem s_prunedP_6 : SOk (regF Tryd.f25 6) [([0, 1, 2, 3, 4, 5, 6, 7, 8], 9), ([10], 11)] [12] [] := by unfold SOk; kernel_rfl
theorem s_prunedP_13 : SOk (regF Tryd.f25 13) [] (List.range 13) [13] := by unfold SOk; kernel_rfl
def sch_prunedP : Sch := fun i => match i with
  | 6 => .ord [([0, 1, 2, 3, 4, 5, 6, 7, 8], 9), ([10], 11)] [12] []
  | 13 => .ord [] (List.range 13) [13]
  | _ => .no
def hp_prunedP_0 (q : ProbD) (pos : List Int) : DH := [some (.cells (probC q)), some (.cells [.cst .nilFunc, .fn 40 0 (L1 []), .fn 41 0 (L1 []), .fn 42 0 (L1 []), .fn 43 0 (L1 []), .fn 44 0 (L1 []), .fn 45 0 (L1 []), .fn 46 0 (L1 []), .fn 47 0 (L1 []), .fn 48 0 (L1 [])]), some (.ints (List.replicate pos.length (0 : Int)))]
def hp_prunedP_1 (q : ProbD) (pos : List Int) (i : Int) : DH := [some (.cells (probC q)), some (.cells [.cst .nilFunc, .fn 40 0 (L1 []), .fn 41 0 (L1 []), .fn 42 0 (L1 []), .fn 43 0 (L1 []), .fn 44 0 (L1 []), .fn 45 0 (L1 []), .fn 46 0 (L1 []), .fn 47 0 (L1 []), .fn 48 0 (L1 [])]), some (.ints (List.replicate pos.length (0 : Int))), some (.ints (List.replicate pos.length (0 : Int))), some (.cells (consC (q.cons.getD ((i).toNat) default) ++ probC q ++ [.ints pos, .msl 3 1 0 pos.length]))]
def hp_prunedP_2 (pos : List Int) (q : ProbD) (i : Int) (o2 : List Int) : DH := [some (.ints (List.replicate pos.length (0 : Int))), some (.cells (consC (q.cons.getD ((i).toNat) default) ++ probC q ++ [.ints pos, .msl 2 1 0 pos.length])), some (.ints o2)]
def hp_prunedP_3 (pos : List Int) (q : ProbD) (i : Int) (o2 o3 : List Int) : DH := [some (.ints (List.replicate pos.length (0 : Int))), some (.cells (consC (q.cons.getD ((i).toNat) default) ++ probC q ++ [.ints pos, .msl 2 1 0 pos.length])), some (.ints o2), some (.ints o3)]
inductive prunedPPt where
  | l1 (o2 : List Int)
  | l2 (x10 : Nat) (x47 x48 : Int) (o2 o3 : List Int)
def prunedP_l1 (n : Nat) (self : prunedPPt → Option ((List Int))) (q : ProbD) (i : Int) (pos : List Int) (o2 : List Int) : Option ((List Int)) :=
  (cloneI n pos).bind fun y1 =>
   self (.l2 y1.length (y1.length : Int) 0 o2 y1)
def prunedP_l2 (n : Nat) (self : prunedPPt → Option ((List Int))) (q : ProbD) (i : Int) (pos : List Int) (x10 : Nat) (x47 x48 : Int) (o2 o3 : List Int) : Option ((List Int)) :=
  bif (decide (x48 < x47)) then
   if (0 ≤ x48 ∧ x48 < (x10 : Int)) ∧ 0 + ((x48).toNat) < o3.length ∧ (0 ≤ x48 ∧ x48 < (pos.length : Int)) ∧ 0 + ((x48).toNat) < o2.length ∧ R64 (x48 + 1) then
    self (.l2 x10 x47 (x48 + 1) o2 (o3.set (0 + ((x48).toNat)) (bits .andNot .i64 (o3.getD (0 + ((x48).toNat)) 0) (o2.getD (0 + ((x48).toNat)) 0))))
   else none
  else
   if x10 = o3.length then
    (isDead n o3).bind fun y1 =>
     bif y1 then
      if pos.length = (List.replicate pos.length (0 : Int)).length then
       some (List.replicate pos.length (0 : Int))
      else none
     else
      some o3
   else none
def prunedP_l0 (n : Nat) (self : prunedPPt → Option ((List Int))) (q : ProbD) (i : Int) (pos : List Int) : Option ((List Int)) :=
  if ((pos.length : Int) : Int) = (pos.length : Int) ∧ 0 ≤ (pos.length : Int) ∧ ((pos.length : Int) : Int) ≤ 1000000000000 then
   (isDead n pos).bind fun y1 =>
    bif y1 then
     if pos.length = (List.replicate pos.length (0 : Int)).length then
      some (List.replicate pos.length (0 : Int))
     else none
    else
     if 0 ≤ i ∧ i < (q.cons.length : Int) then
      bif (((q.cons.getD ((i).toNat) default).kind) == 0) then
       none
      else
       bif (((q.cons.getD ((i).toNat) default).kind) == 1) then
        (diffW n (q.cons.getD ((i).toNat) default) q pos pos.length (List.replicate pos.length (0 : Int))).bind fun y2 =>
         bif (!y2.1) then
          if pos.length = (List.replicate pos.length (0 : Int)).length then
           some (List.replicate pos.length (0 : Int))
          else none
         else
          self (.l1 y2.2)
       else
        bif (((q.cons.getD ((i).toNat) default).kind) == 2) then
         (countW n (q.cons.getD ((i).toNat) default) q pos pos.length (List.replicate pos.length (0 : Int))).bind fun y2 =>
          bif (!y2.1) then
           if pos.length = (List.replicate pos.length (0 : Int)).length then
            some (List.replicate pos.length (0 : Int))
           else none
          else
           self (.l1 y2.2)
        else
         bif (((q.cons.getD ((i).toNat) default).kind) == 3) then
          (sumW n (q.cons.getD ((i).toNat) default) q pos pos.length (List.replicate pos.length (0 : Int))).bind fun y2 =>
           bif (!y2.1) then
            if pos.length = (List.replicate pos.length (0 : Int)).length then
             some (List.replicate pos.length (0 : Int))
            else none
           else
            self (.l1 y2.2)
         else
          bif (((q.cons.getD ((i).toNat) default).kind) == 4) then
           (riseW n (q.cons.getD ((i).toNat) default) q pos pos.length (List.replicate pos.length (0 : Int))).bind fun y2 =>
            bif (!y2.1) then
             if pos.length = (List.replicate pos.length (0 : Int)).length then
              some (List.replicate pos.length (0 : Int))
             else none
            else
             self (.l1 y2.2)
          else
           bif (((q.cons.getD ((i).toNat) default).kind) == 5) then
            (runsW n (q.cons.getD ((i).toNat) default) q pos pos.length (List.replicate pos.length (0 : Int))).bind fun y2 =>
             bif (!y2.1) then
              if pos.length = (List.replicate pos.length (0 : Int)).length then
               some (List.replicate pos.length (0 : Int))
              else none
             else
              self (.l1 y2.2)
           else
            bif (((q.cons.getD ((i).toNat) default).kind) == 6) then
             (apartW n (q.cons.getD ((i).toNat) default) q pos pos.length (List.replicate pos.length (0 : Int))).bind fun y2 =>
              bif (!y2.1) then
               if pos.length = (List.replicate pos.length (0 : Int)).length then
                some (List.replicate pos.length (0 : Int))
               else none
              else
               self (.l1 y2.2)
            else
             bif (((q.cons.getD ((i).toNat) default).kind) == 7) then
              (notW n (q.cons.getD ((i).toNat) default) q pos pos.length (List.replicate pos.length (0 : Int))).bind fun y2 =>
               bif (!y2.1) then
                if pos.length = (List.replicate pos.length (0 : Int)).length then
                 some (List.replicate pos.length (0 : Int))
                else none
               else
                self (.l1 y2.2)
             else
              bif (((q.cons.getD ((i).toNat) default).kind) == 8) then
               (connW n (q.cons.getD ((i).toNat) default) q pos pos.length (List.replicate pos.length (0 : Int))).bind fun y2 =>
                bif (!y2.1) then
                 if pos.length = (List.replicate pos.length (0 : Int)).length then
                  some (List.replicate pos.length (0 : Int))
                 else none
                else
                 self (.l1 y2.2)
              else
               bif (((q.cons.getD ((i).toNat) default).kind) == 9) then
                (loopW n (q.cons.getD ((i).toNat) default) q pos pos.length (List.replicate pos.length (0 : Int))).bind fun y2 =>
                 bif (!y2.1) then
                  if pos.length = (List.replicate pos.length (0 : Int)).length then
                   some (List.replicate pos.length (0 : Int))
                  else none
                 else
                  self (.l1 y2.2)
               else
                none
     else none
  else none
def prunedP_m (q : ProbD) (i : Int) (pos : List Int) : Nat → prunedPPt → Option ((List Int))
  | 0, _ => none
  | n + 1, .l1 o2 => prunedP_l1 n (prunedP_m q i pos n) q i pos o2
  | n + 1, .l2 x10 x47 x48 o2 o3 => prunedP_l2 n (prunedP_m q i pos n) q i pos x10 x47 x48 o2 o3
def prunedP (n : Nat) (q : ProbD) (i : Int) (pos : List Int) : Option ((List Int)) := prunedP_l0 n (prunedP_m q i pos n) q i pos
/-- What the points stand for. -/
def prunedP_at (n : Nat) (B : Nat) (N : Yard Tryd.prog GG 0) (q : ProbD) (i : Int) (pos : List Int) (r : (List Int)) : prunedPPt → Prop
  | .l1 o2 => TrK Tryd.prog GG Fence.wide (some B) 0 N (Fin Tryd.prog Tryd.f25 0 (.ints r) []) (atGC (bodyC Tryd.f25) 9 []) ⟨frm 69 [(2, .ints pos), (8, .msl 0 1 0 pos.length), (9, .ref 1 0)], [some (.ints (List.replicate pos.length (0 : Int))), some (.cells (consC (q.cons.getD ((i).toNat) default) ++ probC q ++ [.ints pos, .msl 2 1 0 pos.length])), some (.ints o2)]⟩
  | .l2 x10 x47 x48 o2 o3 => ∀ m0 : Nat, n ≤ m0 → TrK Tryd.prog GG Fence.wide (some B) 0 N (Fin Tryd.prog Tryd.f25 0 (.ints r) []) (toN m0 (atNC (bodyC Tryd.f25) 0 [])) ⟨frm 69 [(8, .msl 0 1 0 pos.length), (9, .ref 1 0), (10, .msl 3 1 0 x10), (47, .i x47), (48, .i x48)], [some (.ints (List.replicate pos.length (0 : Int))), some (.cells (consC (q.cons.getD ((i).toNat) default) ++ probC q ++ [.ints pos, .msl 2 1 0 pos.length])), some (.ints o2), some (.ints o3)]⟩
theorem prunedP_all (B : Nat) (N : Yard Tryd.prog GG 0) (q : ProbD) (i : Int) (pos : List Int) : ∀ (n : Nat) (pt : prunedPPt) (r : (List Int)), prunedP_m q i pos n pt = some r → prunedP_at n B N q i pos r pt := by
  intro n; induction n with
  | zero => intro _ _ h; cases h
  | succ n hself =>
   intro pt r h
   cases pt
   case l1 o2 =>
    have h : prunedP_l1 n (prunedP_m q i pos n) q i pos o2 = some r := h
    show TrK _ _ _ _ _ _ _ _ _
    unfold prunedP_l1 at h
    obtain ⟨y1, hy1, h⟩ := bindSome h
    exact gg sch_prunedP [0, 1, 2, 3] (H0.c (ES.snapNew (ds := [.ints pos]) (cloneI_ok hy1) (hp_prunedP_2 pos q i o2) (allSnap_plain (by kernel_rfl)) rfl)) (en n (hself _ _ h n (Nat.le_refl _)))
   case l2 x10 x47 x48 o2 o3 =>
    have h : prunedP_l2 n (prunedP_m q i pos n) q i pos x10 x47 x48 o2 o3 = some r := h
    intro m0 hm0
    refine rd hm0 fun m0 hm0 => ?_
    unfold prunedP_l2 at h
    rcases bifSome h with ⟨c0, h⟩ | ⟨c0, h⟩
    · obtain ⟨⟨g0, g1, g2, g3, g4⟩, h⟩ := guardSome h
      exact gg (stopAt 9 sch_prunedP) [0, 1, 2, 3] (H0.b 49 c0 |>.g s_prunedP_13 |>.g g0 |>.g g1 |>.g g2 |>.g g3 |>.g g0 |>.g g1 |>.w 64 g4) (hself _ _ h m0 hm0)
    · obtain ⟨g0, h⟩ := guardSome h
      obtain ⟨y1, hy1, h⟩ := bindSome h
      have p := H0.b 49 c0 |>.c (sb [.msl 3 1 0 x10] (isDead_ok hy1) (hp_prunedP_3 pos q i o2 o3) ⟨Snap.ints rfl g0, trivial⟩)
      rcases bifSome h with ⟨c1, h⟩ | ⟨c1, h⟩
      · obtain ⟨g1, h⟩ := guardSome h
        cases h
        exact ez (stopAt 9 sch_prunedP) [6] [0] (p.b 66 c1) [0] (H0.g g1)
      · obtain rfl := Option.some.inj h
        exact ez (stopAt 9 sch_prunedP) [6] [3] (p.b 66 c1) [0] (H0.g g0)
theorem prunedP_ok {n : Nat} {q : ProbD} {i : Int} {pos : List Int} {r : (List Int)} (h : prunedP n q i pos = some r) : ES Tryd.prog GG 25 [.agg 5 (L1 (probC q)), .i i, .ints pos] [] (.ints r) [] true := by
  refine ot Tryd.func25 fun B N => ?_
  have hself := prunedP_all B N q i pos n
  unfold prunedP at h
  unfold prunedP_l0 at h
  obtain ⟨g0, h⟩ := guardSome h
  obtain ⟨y1, hy1, h⟩ := bindSome h
  have p := H0.t |>.g g0 |>.c (fb (isDead_ok hy1) (hp_prunedP_0 q pos))
  rcases bifSome h with ⟨c0, h⟩ | ⟨c0, h⟩
  · obtain ⟨g1, h⟩ := guardSome h
    cases h
    exact ez (stopAt 9 sch_prunedP) [6] [2] (p.b 18 c0) [0] (H0.g g1)
  · obtain ⟨g1, h⟩ := guardSome h
    have p := p.b 18 c0 |>.g s_prunedP_6 |>.g g1 |>.g g0
    rcases bifSome h with ⟨c1, h⟩ | ⟨c1, h⟩
    · cases h
    · rcases bifSome h with ⟨c3, h⟩ | ⟨c3, h⟩
      · obtain ⟨y2, hy2, h⟩ := bindSome h
        have p := p.o 36 (DLe.int (k := .i64) (eq_of_beq c3)) |>.g (by decide : (0 : Int) ≤ 1 ∧ 1 < ((10 : Nat) : Int)) |>.c (em (diffW_ok hy2) [4, 3] (hp_prunedP_1 q pos i))
        rcases bifSome h with ⟨c5, h⟩ | ⟨c5, h⟩
        · obtain ⟨g2, h⟩ := guardSome h
          cases h
          exact ez (stopAt 9 sch_prunedP) [6] [2] (p.b 42 c5) [0] (H0.g g2)
        · exact gg (stopAt 9 sch_prunedP) [2, 4, 3] (p.b 42 c5) (hself _ _ h)
      · rcases bifSome h with ⟨c5, h⟩ | ⟨c5, h⟩
        · obtain ⟨y2, hy2, h⟩ := bindSome h
          have p := p.o 36 (DLe.int (k := .i64) (eq_of_beq c5)) |>.g (by decide : (0 : Int) ≤ 2 ∧ 2 < ((10 : Nat) : Int)) |>.c (em (countW_ok hy2) [4, 3] (hp_prunedP_1 q pos i))
          rcases bifSome h with ⟨c7, h⟩ | ⟨c7, h⟩
          · obtain ⟨g2, h⟩ := guardSome h
            cases h
            exact ez (stopAt 9 sch_prunedP) [6] [2] (p.b 42 c7) [0] (H0.g g2)
          · exact gg (stopAt 9 sch_prunedP) [2, 4, 3] (p.b 42 c7) (hself _ _ h)
        · rcases bifSome h with ⟨c7, h⟩ | ⟨c7, h⟩
          · obtain ⟨y2, hy2, h⟩ := bindSome h
            have p := p.o 36 (DLe.int (k := .i64) (eq_of_beq c7)) |>.g (by decide : (0 : Int) ≤ 3 ∧ 3 < ((10 : Nat) : Int)) |>.c (em (sumW_ok hy2) [4, 3] (hp_prunedP_1 q pos i))
            rcases bifSome h with ⟨c9, h⟩ | ⟨c9, h⟩
            · obtain ⟨g2, h⟩ := guardSome h
              cases h
              exact ez (stopAt 9 sch_prunedP) [6] [2] (p.b 42 c9) [0] (H0.g g2)
            · exact gg (stopAt 9 sch_prunedP) [2, 4, 3] (p.b 42 c9) (hself _ _ h)
          · rcases bifSome h with ⟨c9, h⟩ | ⟨c9, h⟩
            · obtain ⟨y2, hy2, h⟩ := bindSome h
              have p := p.o 36 (DLe.int (k := .i64) (eq_of_beq c9)) |>.g (by decide : (0 : Int) ≤ 4 ∧ 4 < ((10 : Nat) : Int)) |>.c (em (riseW_ok hy2) [4, 3] (hp_prunedP_1 q pos i))
              rcases bifSome h with ⟨c11, h⟩ | ⟨c11, h⟩
              · obtain ⟨g2, h⟩ := guardSome h
                cases h
                exact ez (stopAt 9 sch_prunedP) [6] [2] (p.b 42 c11) [0] (H0.g g2)
              · exact gg (stopAt 9 sch_prunedP) [2, 4, 3] (p.b 42 c11) (hself _ _ h)
            · rcases bifSome h with ⟨c11, h⟩ | ⟨c11, h⟩
              · obtain ⟨y2, hy2, h⟩ := bindSome h
                have p := p.o 36 (DLe.int (k := .i64) (eq_of_beq c11)) |>.g (by decide : (0 : Int) ≤ 5 ∧ 5 < ((10 : Nat) : Int)) |>.c (em (runsW_ok hy2) [4, 3] (hp_prunedP_1 q pos i))
                rcases bifSome h with ⟨c13, h⟩ | ⟨c13, h⟩
                · obtain ⟨g2, h⟩ := guardSome h
                  cases h
                  exact ez (stopAt 9 sch_prunedP) [6] [2] (p.b 42 c13) [0] (H0.g g2)
                · exact gg (stopAt 9 sch_prunedP) [2, 4, 3] (p.b 42 c13) (hself _ _ h)
              · rcases bifSome h with ⟨c13, h⟩ | ⟨c13, h⟩
                · obtain ⟨y2, hy2, h⟩ := bindSome h
                  have p := p.o 36 (DLe.int (k := .i64) (eq_of_beq c13)) |>.g (by decide : (0 : Int) ≤ 6 ∧ 6 < ((10 : Nat) : Int)) |>.c (em (apartW_ok hy2) [4, 3] (hp_prunedP_1 q pos i))
                  rcases bifSome h with ⟨c15, h⟩ | ⟨c15, h⟩
                  · obtain ⟨g2, h⟩ := guardSome h
                    cases h
                    exact ez (stopAt 9 sch_prunedP) [6] [2] (p.b 42 c15) [0] (H0.g g2)
                  · exact gg (stopAt 9 sch_prunedP) [2, 4, 3] (p.b 42 c15) (hself _ _ h)
                · rcases bifSome h with ⟨c15, h⟩ | ⟨c15, h⟩
                  · obtain ⟨y2, hy2, h⟩ := bindSome h
                    have p := p.o 36 (DLe.int (k := .i64) (eq_of_beq c15)) |>.g (by decide : (0 : Int) ≤ 7 ∧ 7 < ((10 : Nat) : Int)) |>.c (em (notW_ok hy2) [4, 3] (hp_prunedP_1 q pos i))
                    rcases bifSome h with ⟨c17, h⟩ | ⟨c17, h⟩
                    · obtain ⟨g2, h⟩ := guardSome h
                      cases h
                      exact ez (stopAt 9 sch_prunedP) [6] [2] (p.b 42 c17) [0] (H0.g g2)
                    · exact gg (stopAt 9 sch_prunedP) [2, 4, 3] (p.b 42 c17) (hself _ _ h)
                  · rcases bifSome h with ⟨c17, h⟩ | ⟨c17, h⟩
                    · obtain ⟨y2, hy2, h⟩ := bindSome h
                      have p := p.o 36 (DLe.int (k := .i64) (eq_of_beq c17)) |>.g (by decide : (0 : Int) ≤ 8 ∧ 8 < ((10 : Nat) : Int)) |>.c (em (connW_ok hy2) [4, 3] (hp_prunedP_1 q pos i))
                      rcases bifSome h with ⟨c19, h⟩ | ⟨c19, h⟩
                      · obtain ⟨g2, h⟩ := guardSome h
                        cases h
                        exact ez (stopAt 9 sch_prunedP) [6] [2] (p.b 42 c19) [0] (H0.g g2)
                      · exact gg (stopAt 9 sch_prunedP) [2, 4, 3] (p.b 42 c19) (hself _ _ h)
                    · rcases bifSome h with ⟨c19, h⟩ | ⟨c19, h⟩
                      · obtain ⟨y2, hy2, h⟩ := bindSome h
                        have p := p.o 36 (DLe.int (k := .i64) (eq_of_beq c19)) |>.g (by decide : (0 : Int) ≤ 9 ∧ 9 < ((10 : Nat) : Int)) |>.c (em (loopW_ok hy2) [4, 3] (hp_prunedP_1 q pos i))
                        rcases bifSome h with ⟨c21, h⟩ | ⟨c21, h⟩
                        · obtain ⟨g2, h⟩ := guardSome h
                          cases h
                          exact ez (stopAt 9 sch_prunedP) [6] [2] (p.b 42 c21) [0] (H0.g g2)
                        · exact gg (stopAt 9 sch_prunedP) [2, 4, 3] (p.b 42 c21) (hself _ _ h)
                      · cases h
def pruneP_l0 (n : Nat) (q : ProbD) (i : Int) (pos : List Int) : Option ((List Int) × Int) :=
  (checkP n q i pos).bind fun y1 =>
   bif (y1 != 0) then
    some (([] : List Int), y1)
   else
    (prunedP n q i pos).bind fun y2 =>
     some (y2, 0)
def pruneP (n : Nat) (q : ProbD) (i : Int) (pos : List Int) : Option ((List Int) × Int) := pruneP_l0 n q i pos
theorem pruneP_ok {n : Nat} {q : ProbD} {i : Int} {pos : List Int} {r : (List Int) × Int} (h : pruneP n q i pos = some r) : ES Tryd.prog GG 11 [.agg 5 (L1 (probC q)), .i i, .ints pos] [] (.tup 2 (L1 [.ints r.1, .i r.2])) [] true := by
  refine ot Tryd.func11 fun B N => ?_
  unfold pruneP at h
  unfold pruneP_l0 at h
  obtain ⟨y1, hy1, h⟩ := bindSome h
  have p := H0.c (fb (checkP_ok hy1) [some (.cells (probC q))])
  rcases bifSome h with ⟨c0, h⟩ | ⟨c0, h⟩
  · cases h
    exact el sch0 [6, 7] [] (p.b 14 c0) [] H0 [.nils, .i y1] (DLe.tupL (l := [.nils, .i y1]) (l' := [.ints ([] : List Int), .i y1]) rfl ⟨DLe.ints_nil, (DLe.refl _), trivial⟩)
  · obtain ⟨y2, hy2, h⟩ := bindSome h
    cases h
    exact ee sch0 [6, 7] [] (p.b 14 c0 |>.c (fb (prunedP_ok hy2) [some (.cells (probC q))]))
theorem s_lostP_8 : SOk (regF Tryd.f14 8) [([0, 1, 2, 3, 4, 5, 6, 7, 8], 9)] [] [] := by unfold SOk; kernel_rfl
def sch_lostP : Sch := fun i => match i with
  | 8 => .ord [([0, 1, 2, 3, 4, 5, 6, 7, 8], 9)] [] []
  | _ => .no
def hp_lostP_0 (x25 : Int) (pos x9 : List Int) : DH := [some (.cells [.nils]), some (.cells [.i x25]), some (.iter ((symsI (bits .andNot .i64 (pos.getD ((x25).toNat) 0) (x9.getD ((x25).toNat) 0))).map encI))]
def hp_lostP_1 (o0_0 : Nat) (x25 : Int) (pos x9 : List Int) (o1 : List (Int × Int)) : DH := [some (.cells [.msl 3 2 0 o0_0]), some (.cells [.i x25]), some (.iter ((symsI (bits .andNot .i64 (pos.getD ((x25).toNat) 0) (x9.getD ((x25).toNat) 0))).map encI)), some (.arr 2 o1.length (rowE iiC o1))]
def hp_lostP_2 (r37s1_0_0 : Nat) (r37s1_1_0 : Int) (r37s1_3 : List (Int × Int)) : DH := [some (.cells [.msl 3 2 0 r37s1_0_0]), some (.cells [.i r37s1_1_0]), none, some (.arr 2 r37s1_3.length (rowE iiC r37s1_3))]
def hp_lostP_3 (r37s0_0_0 : Nat) (x25 : Int) (r37s0_3 : List (Int × Int)) : DH := [some (.cells [.msl 3 2 0 r37s0_0_0]), some (.cells [.i x25]), none, some (.arr 2 r37s0_3.length (rowE iiC r37s0_3))]
inductive lostP_b37_1T where
  | s0 (r37s0_0_0 : Nat) (r37s0_3 : List (Int × Int))
def lostP_b37_1_H (pos x9 : List Int) (x25 : Int) : lostP_b37_1T → DH
  | .s0 r37s0_0_0 r37s0_3 => [some (.cells [.msl 3 2 0 r37s0_0_0]), some (.cells [.i x25]), none, some (.arr 2 r37s0_3.length (rowE iiC r37s0_3))]
def lostP_b37_1_e0 (n : Nat) (pos x9 : List Int) (x25 e37 : Int) (r37s0_0_0 : Nat) (r37s0_3 : List (Int × Int)) : Option lostP_b37_1T :=
  if r37s0_0_0 = r37s0_3.length ∧ r37s0_3.length + ([(x25, e37)] : List (Int × Int)).length ≤ LIM then
   some (.s0 (r37s0_3.length + ([(x25, e37)] : List (Int × Int)).length) (r37s0_3 ++ ([(x25, e37)] : List (Int × Int))))
  else none
def lostP_b37_1_l0 (n : Nat) (pos x9 : List Int) (x25 e37 : Int) : lostP_b37_1T → Option lostP_b37_1T
  | .s0 r37s0_0_0 r37s0_3 => lostP_b37_1_e0 n pos x9 x25 e37 r37s0_0_0 r37s0_3
def lostP_b37_1 (n : Nat) (pos x9 : List Int) (x25 e37 : Int) (s : lostP_b37_1T) : Option lostP_b37_1T := lostP_b37_1_l0 n pos x9 x25 e37 s
theorem lostP_b37_1_ok (n : Nat) (pos x9 : List Int) (x25 : Int) (l B : Nat) (N : Yard Tryd.prog GG 3) (e37 : Int) (s : lostP_b37_1T) (r : lostP_b37_1T) (h : lostP_b37_1 n pos x9 x25 e37 s = some r) : TrA Tryd.prog GG (Fence.wide.inRound l) (some B) 3 N (RndQ 3 [] 0 (lostP_b37_1_H pos x9 x25 r)) (rgA Tryd.f14 37) (rgB Tryd.f14 37) ⟨frm 47 [(2, .ints pos), (6, .ref 0 0), (9, .ints x9), (10, .ref 1 0), (24, .i (pos.length : Int)), (25, .i x25), (37, .it 2), (38, .i e37)], lostP_b37_1_H pos x9 x25 s⟩ := by
  unfold lostP_b37_1 at h
  cases s with
  | s0 r37s0_0_0 r37s0_3 =>
    have h : lostP_b37_1_e0 n pos x9 x25 e37 r37s0_0_0 r37s0_3 = some r := h
    unfold lostP_b37_1_e0 at h
    refine ag sch_lostP [0, 1, 2, 3] H0 (frm 47 [(6, .ref 0 0), (10, .ref 1 0), (11, .i e37)]) (hp_lostP_3 r37s0_0_0 x25 r37s0_3) ?_
    intro N
    obtain ⟨⟨b37v1_g0, b37v1_g1⟩, h⟩ := guardSome h
    cases h
    exact rr sch_lostP [0, 1, 2, 5] rfl (H0.a 43 4 2 (rows_build (c := iiC) (L := ([(x25, e37)] : List (Int × Int))) (vals := [.agg 2 (L1 [.i x25, .i e37])]) rfl ⟨⟨_, rfl, ⟨dle_refl, dle_refl, trivial⟩⟩, trivial⟩) |>.g (And.intro (And.intro (And.intro (Eq.refl 0) (Eq.refl 1)) (oneR iiC ([(x25, e37)] : List (Int × Int)) (([(x25, e37)] : List (Int × Int)).length) 2 fun _ => ⟨rfl, rfl⟩)) (And.intro (And.intro (Eq.refl 0) b37v1_g0) b37v1_g1)) |>.a 44 5 2 (rows_app (enc := (encE iiC)) (L := r37s0_3) (L' := ([(x25, e37)] : List (Int × Int))) rfl rfl fun _ _ _ _ => dle_refl) |>.t)
inductive lostP_b37T where
  | s0
  | s1 (r37s1_0_0 : Nat) (r37s1_1_0 : Int) (r37s1_3 : List (Int × Int))
def lostP_b37_H (pos x9 : List Int) (x25 : Int) : lostP_b37T → DH
  | .s0 => [some (.cells [.nils]), some (.cells [.i x25]), none]
  | .s1 r37s1_0_0 r37s1_1_0 r37s1_3 => [some (.cells [.msl 3 2 0 r37s1_0_0]), some (.cells [.i r37s1_1_0]), none, some (.arr 2 r37s1_3.length (rowE iiC r37s1_3))]
def lostP_b37_e0 (n : Nat) (pos x9 : List Int) (x25 e37 : Int) : Option lostP_b37T :=
  some (.s1 (([(x25, e37)] : List (Int × Int)).length) x25 ([(x25, e37)] : List (Int × Int)))
def lostP_b37_e1 (n : Nat) (pos x9 : List Int) (x25 e37 : Int) (r37s1_0_0 : Nat) (r37s1_1_0 : Int) (r37s1_3 : List (Int × Int)) : Option lostP_b37T :=
  if r37s1_0_0 = r37s1_3.length ∧ r37s1_3.length + ([(r37s1_1_0, e37)] : List (Int × Int)).length ≤ LIM then
   some (.s1 (r37s1_3.length + ([(r37s1_1_0, e37)] : List (Int × Int)).length) r37s1_1_0 (r37s1_3 ++ ([(r37s1_1_0, e37)] : List (Int × Int))))
  else none
def lostP_b37_l0 (n : Nat) (pos x9 : List Int) (x25 e37 : Int) : lostP_b37T → Option lostP_b37T
  | .s0 => lostP_b37_e0 n pos x9 x25 e37
  | .s1 r37s1_0_0 r37s1_1_0 r37s1_3 => lostP_b37_e1 n pos x9 x25 e37 r37s1_0_0 r37s1_1_0 r37s1_3
def lostP_b37 (n : Nat) (pos x9 : List Int) (x25 e37 : Int) (s : lostP_b37T) : Option lostP_b37T := lostP_b37_l0 n pos x9 x25 e37 s
theorem lostP_b37_ok (n : Nat) (pos x9 : List Int) (x25 : Int) (l B : Nat) (N : Yard Tryd.prog GG 3) (e37 : Int) (s : lostP_b37T) (r : lostP_b37T) (h : lostP_b37 n pos x9 x25 e37 s = some r) : TrA Tryd.prog GG (Fence.wide.inRound l) (some B) 3 N (RndQ 3 [] 0 (lostP_b37_H pos x9 x25 r)) (rgA Tryd.f14 37) (rgB Tryd.f14 37) ⟨frm 47 [(2, .ints pos), (6, .ref 0 0), (9, .ints x9), (10, .ref 1 0), (24, .i (pos.length : Int)), (25, .i x25), (37, .it 2), (38, .i e37)], lostP_b37_H pos x9 x25 s⟩ := by
  unfold lostP_b37 at h
  cases s with
  | s0 =>
    have h : lostP_b37_e0 n pos x9 x25 e37 = some r := h
    unfold lostP_b37_e0 at h
    refine ag sch_lostP [0, 1, 2] H0 (frm 47 [(6, .ref 0 0), (10, .ref 1 0), (11, .i e37)]) [some (.cells [.nils]), some (.cells [.i x25]), none] ?_
    intro N
    cases h
    exact rr sch_lostP [0, 1, 2, 4] rfl (H0.a 43 3 2 (rows_build (c := iiC) (L := ([(x25, e37)] : List (Int × Int))) (vals := [.agg 2 (L1 [.i x25, .i e37])]) rfl ⟨⟨_, rfl, ⟨dle_refl, dle_refl, trivial⟩⟩, trivial⟩) |>.g (And.intro (And.intro (And.intro (Eq.refl 0) (Eq.refl 1)) (oneR iiC ([(x25, e37)] : List (Int × Int)) (([(x25, e37)] : List (Int × Int)).length) 2 fun _ => ⟨rfl, rfl⟩)) (And.intro (by decide : 0 < 1) (by decide : 1 ≤ LIM))) |>.t)
  | s1 r37s1_0_0 r37s1_1_0 r37s1_3 =>
    have h : lostP_b37_e1 n pos x9 x25 e37 r37s1_0_0 r37s1_1_0 r37s1_3 = some r := h
    unfold lostP_b37_e1 at h
    refine ag sch_lostP [0, 1, 2, 3] H0 (frm 47 [(6, .ref 0 0), (10, .ref 1 0), (11, .i e37)]) (hp_lostP_2 r37s1_0_0 r37s1_1_0 r37s1_3) ?_
    intro N
    obtain ⟨⟨b37_g0, b37_g1⟩, h⟩ := guardSome h
    cases h
    exact rr sch_lostP [0, 1, 2, 5] rfl (H0.a 43 4 2 (rows_build (c := iiC) (L := ([(r37s1_1_0, e37)] : List (Int × Int))) (vals := [.agg 2 (L1 [.i r37s1_1_0, .i e37])]) rfl ⟨⟨_, rfl, ⟨dle_refl, dle_refl, trivial⟩⟩, trivial⟩) |>.g (And.intro (And.intro (And.intro (Eq.refl 0) (Eq.refl 1)) (oneR iiC ([(r37s1_1_0, e37)] : List (Int × Int)) (([(r37s1_1_0, e37)] : List (Int × Int)).length) 2 fun _ => ⟨rfl, rfl⟩)) (And.intro (And.intro (Eq.refl 0) b37_g0) b37_g1)) |>.a 44 5 2 (rows_app (enc := (encE iiC)) (L := r37s1_3) (L' := ([(r37s1_1_0, e37)] : List (Int × Int))) rfl rfl fun _ _ _ _ => dle_refl) |>.t)
inductive lostPPt where
  | l1 (x9 : List Int) (x25 : Int)
  | l2 (x9 : List Int) (x25 : Int) (o0_0 : Nat) (o1 : List (Int × Int))
def lostP_l1 (n : Nat) (self : lostPPt → Option ((List (Int × Int)) × Int)) (q : ProbD) (i : Int) (pos : List Int) (x9 : List Int) (x25 : Int) : Option ((List (Int × Int)) × Int) :=
  bif (decide (x25 < (pos.length : Int))) then
   if (0 ≤ x25 ∧ x25 < (pos.length : Int)) ∧ (0 ≤ x25 ∧ x25 < (x9.length : Int)) ∧ (0 ≤ (bits .andNot .i64 (pos.getD ((x25).toNat) 0) (x9.getD ((x25).toNat) 0)) ∧ (bits .andNot .i64 (pos.getD ((x25).toNat) 0) (x9.getD ((x25).toNat) 0)) < 9223372036854775808) then
    (foldO (lostP_b37 n pos x9 x25) (symsI (bits .andNot .i64 (pos.getD ((x25).toNat) 0) (x9.getD ((x25).toNat) 0))) (.s0)).bind fun y1 =>
     match y1 with
     | .s0 =>
      if R64 (x25 + 1) then
       self (.l1 x9 (x25 + 1))
      else none
     | .s1 y1_1_0 y1_1_1 y1_1_2 =>
      if R64 (x25 + 1) then
       self (.l2 x9 (x25 + 1) y1_1_0 y1_1_2)
      else none
   else none
  else
   some (([] : List (Int × Int)), 0)
def lostP_l2 (n : Nat) (self : lostPPt → Option ((List (Int × Int)) × Int)) (q : ProbD) (i : Int) (pos : List Int) (x9 : List Int) (x25 : Int) (o0_0 : Nat) (o1 : List (Int × Int)) : Option ((List (Int × Int)) × Int) :=
  bif (decide (x25 < (pos.length : Int))) then
   if (0 ≤ x25 ∧ x25 < (pos.length : Int)) ∧ (0 ≤ x25 ∧ x25 < (x9.length : Int)) ∧ (0 ≤ (bits .andNot .i64 (pos.getD ((x25).toNat) 0) (x9.getD ((x25).toNat) 0)) ∧ (bits .andNot .i64 (pos.getD ((x25).toNat) 0) (x9.getD ((x25).toNat) 0)) < 9223372036854775808) then
    (foldO (lostP_b37_1 n pos x9 x25) (symsI (bits .andNot .i64 (pos.getD ((x25).toNat) 0) (x9.getD ((x25).toNat) 0))) (.s0 o0_0 o1)).bind fun y1 =>
     match y1 with
     | .s0 y1_0_0 y1_0_1 =>
      if R64 (x25 + 1) then
       self (.l2 x9 (x25 + 1) y1_0_0 y1_0_1)
      else none
   else none
  else
   if o0_0 = o1.length then
    some (o1, 0)
   else none
def lostP_l0 (n : Nat) (self : lostPPt → Option ((List (Int × Int)) × Int)) (q : ProbD) (i : Int) (pos : List Int) : Option ((List (Int × Int)) × Int) :=
  (checkP n q i pos).bind fun y1 =>
   bif (y1 != 0) then
    some (([] : List (Int × Int)), y1)
   else
    (prunedP n q i pos).bind fun y2 =>
     self (.l1 y2 0)
def lostP_m (q : ProbD) (i : Int) (pos : List Int) : Nat → lostPPt → Option ((List (Int × Int)) × Int)
  | 0, _ => none
  | n + 1, .l1 x9 x25 => lostP_l1 n (lostP_m q i pos n) q i pos x9 x25
  | n + 1, .l2 x9 x25 o0_0 o1 => lostP_l2 n (lostP_m q i pos n) q i pos x9 x25 o0_0 o1
def lostP (n : Nat) (q : ProbD) (i : Int) (pos : List Int) : Option ((List (Int × Int)) × Int) := lostP_l0 n (lostP_m q i pos n) q i pos
/-- What the points stand for. -/
def lostP_at (n : Nat) (B : Nat) (N : Yard Tryd.prog GG 0) (q : ProbD) (i : Int) (pos : List Int) (r : (List (Int × Int)) × Int) : lostPPt → Prop
  | .l1 x9 x25 => ∀ m0 : Nat, n ≤ m0 → TrK Tryd.prog GG Fence.wide (some B) 0 N (Fin Tryd.prog Tryd.f14 0 (.tup 2 (L1 [.sl 2 r.1.length (rowE iiC r.1), .i r.2])) []) (toN m0 (atNC (bodyC Tryd.f14) 0 [])) ⟨frm 47 [(2, .ints pos), (6, .ref 0 0), (9, .ints x9), (24, .i (pos.length : Int)), (25, .i x25)], [some (.cells [.nils])]⟩
  | .l2 x9 x25 o0_0 o1 => ∀ m0 : Nat, n ≤ m0 → TrK Tryd.prog GG Fence.wide (some B) 0 N (Fin Tryd.prog Tryd.f14 0 (.tup 2 (L1 [.sl 2 r.1.length (rowE iiC r.1), .i r.2])) []) (toN m0 (atNC (bodyC Tryd.f14) 0 [])) ⟨frm 47 [(2, .ints pos), (6, .ref 0 0), (9, .ints x9), (24, .i (pos.length : Int)), (25, .i x25)], [some (.cells [.msl 1 2 0 o0_0]), some (.arr 2 o1.length (rowE iiC o1))]⟩
theorem lostP_all (B : Nat) (N : Yard Tryd.prog GG 0) (q : ProbD) (i : Int) (pos : List Int) : ∀ (n : Nat) (pt : lostPPt) (r : (List (Int × Int)) × Int), lostP_m q i pos n pt = some r → lostP_at n B N q i pos r pt := by
  intro n; induction n with
  | zero => intro _ _ h; cases h
  | succ n hself =>
   intro pt r h
   cases pt
   case l1 x9 x25 =>
    have h : lostP_l1 n (lostP_m q i pos n) q i pos x9 x25 = some r := h
    intro m0 hm0
    refine rd hm0 fun m0 hm0 => ?_
    unfold lostP_l1 at h
    rcases bifSome h with ⟨c0, h⟩ | ⟨c0, h⟩
    · obtain ⟨⟨g0, g1, g2⟩, h⟩ := guardSome h
      obtain ⟨y1, hy1, h⟩ := bindSome h
      refine gs sch_lostP [0, 1, 2] (H0.b 26 c0 |>.t |>.g s_lostP_8 |>.g g0 |>.g g1 |>.c (symbols_it g2 [some (.cells [.nils]), some (.cells [.i x25])])) (atT (bodyC Tryd.f14) 37 [m0]) (frm 47 [(2, .ints pos), (6, .ref 0 0), (9, .ints x9), (10, .ref 1 0), (24, .i (pos.length : Int)), (25, .i x25), (37, .it 2)]) (hp_lostP_0 x25 pos x9) ?_
      refine r0 2 37 #[38] encI 3 hy1 (lostP_b37_ok n pos x9 x25) ?_
      cases y1 with
      | s0 =>
        dsimp only at h
        obtain ⟨g3, h⟩ := guardSome h
        exact gg sch_lostP [0] (H0.w 45 g3) (hself _ _ h m0 hm0)
      | s1 y1_1_0 y1_1_1 y1_1_2 =>
        dsimp only at h
        obtain ⟨g3, h⟩ := guardSome h
        exact gg sch_lostP [0, 3] (H0.w 45 g3) (hself _ _ h m0 hm0)
    · cases h
      exact el sch_lostP [6, 7] [0] (H0.b 26 c0 |>.t) [] H0 [.nils, .i 0] (DLe.tupL (l := [.nils, .i 0]) (l' := [.sl 2 (([] : List (Int × Int)).length) (rowE iiC ([] : List (Int × Int))), .i 0]) rfl ⟨(DLe.sl_nil _ _), (DLe.refl _), trivial⟩)
   case l2 x9 x25 o0_0 o1 =>
    have h : lostP_l2 n (lostP_m q i pos n) q i pos x9 x25 o0_0 o1 = some r := h
    intro m0 hm0
    refine rd hm0 fun m0 hm0 => ?_
    unfold lostP_l2 at h
    rcases bifSome h with ⟨c0, h⟩ | ⟨c0, h⟩
    · obtain ⟨⟨g0, g1, g2⟩, h⟩ := guardSome h
      obtain ⟨y1, hy1, h⟩ := bindSome h
      refine gs sch_lostP [0, 2, 3, 1] (H0.b 26 c0 |>.t |>.g s_lostP_8 |>.g g0 |>.g g1 |>.c (symbols_it g2 [some (.cells [.msl 1 2 0 o0_0]), some (.arr 2 o1.length (rowE iiC o1)), some (.cells [.i x25])])) (atT (bodyC Tryd.f14) 37 [m0]) (frm 47 [(2, .ints pos), (6, .ref 0 0), (9, .ints x9), (10, .ref 1 0), (24, .i (pos.length : Int)), (25, .i x25), (37, .it 2)]) (hp_lostP_1 o0_0 x25 pos x9 o1) ?_
      refine r0 2 37 #[38] encI 3 hy1 (lostP_b37_1_ok n pos x9 x25) ?_
      cases y1 with
      | s0 y1_0_0 y1_0_1 =>
        dsimp only at h
        obtain ⟨g3, h⟩ := guardSome h
        exact gg sch_lostP [0, 3] (H0.w 45 g3) (hself _ _ h m0 hm0)
    · obtain ⟨g0, h⟩ := guardSome h
      cases h
      exact ez sch_lostP [6, 7] [0, 1] (H0.b 26 c0 |>.t) [1] (H0.g g0)
theorem lostP_ok {n : Nat} {q : ProbD} {i : Int} {pos : List Int} {r : (List (Int × Int)) × Int} (h : lostP n q i pos = some r) : ES Tryd.prog GG 14 [.agg 5 (L1 (probC q)), .i i, .ints pos] [] (.tup 2 (L1 [.sl 2 r.1.length (rowE iiC r.1), .i r.2])) [] true := by
  refine ot Tryd.func14 fun B N => ?_
  have hself := lostP_all B N q i pos n
  unfold lostP at h
  unfold lostP_l0 at h
  obtain ⟨y1, hy1, h⟩ := bindSome h
  have p := H0.c (fb (checkP_ok hy1) [some (.cells (probC q)), some (.cells [.nils])])
  rcases bifSome h with ⟨c0, h⟩ | ⟨c0, h⟩
  · cases h
    exact el sch_lostP [6, 7] [1] (p.b 17 c0 |>.t) [] H0 [.nils, .i y1] (DLe.tupL (l := [.nils, .i y1]) (l' := [.sl 2 (([] : List (Int × Int)).length) (rowE iiC ([] : List (Int × Int))), .i y1]) rfl ⟨(DLe.sl_nil _ _), (DLe.refl _), trivial⟩)
  · obtain ⟨y2, hy2, h⟩ := bindSome h
    exact gg sch_lostP [1] (p.b 17 c0 |>.c (fb (prunedP_ok hy2) [some (.cells (probC q)), some (.cells [.nils])])) (en n (hself _ _ h n (Nat.le_refl _)))
def becomes_l0 (n : Nat) (q : ProbD) (pos want : List Int) : Option Bool :=
  (pruneP n q 0 pos).bind fun y1 =>
   bif (y1.2 == 0) then
    (same n y1.1 want).bind fun y2 =>
     some y2
   else
    some false
def becomes (n : Nat) (q : ProbD) (pos want : List Int) : Option Bool := becomes_l0 n q pos want
theorem becomes_ok {n : Nat} {q : ProbD} {pos want : List Int} {r : Bool} (h : becomes n q pos want = some r) : ES Tryd.prog GG 20 [.agg 5 (L1 (probC q)), .ints pos, .ints want] [] (.bool r) [] true := by
  refine ot Tryd.func20 fun B N => ?_
  unfold becomes at h
  unfold becomes_l0 at h
  obtain ⟨y1, hy1, h⟩ := bindSome h
  have p := H0.c (fb (pruneP_ok hy1) [some (.cells (probC q))])
  rcases bifSome h with ⟨c0, h⟩ | ⟨c0, h⟩
  · obtain ⟨y2, hy2, h⟩ := bindSome h
    obtain rfl := Option.some.inj h
    exact ee sch0 [6] [] (p.b 16 c0 |>.c (fb (same_ok hy2) [some (.cells (probC q))]))
  · obtain rfl := Option.some.inj h
    exact ee sch0 [6] [] (p.b 16 c0)
end Go.Proofs.YtekkngkphejfcaaDoor
namespace Go.Proofs.YtekkngkphejfcaaDoor
open Go.RowKit
/-- A cell without symbols. -/
def deadB (pos : List Int) : Bool := pos.any (· == 0)
theorem deadB_false {pos : List Int} : deadB pos = false ↔ ∀ j, j < pos.length → pos.getD j 0 ≠ 0 := by
  unfold deadB
  rw [List.any_eq_false]
  constructor
  · intro h j hj e
    refine h (pos.getD j 0) ?_ (by rw [e]; rfl)
    rw [List.getD_eq_getElem?_getD, List.getElem?_eq_getElem hj]; exact List.getElem_mem hj
  · intro h x hx
    obtain ⟨j, hj, rfl⟩ := List.getElem_of_mem hx
    have := h j hj
    rw [List.getD_eq_getElem?_getD, List.getElem?_eq_getElem hj] at this
    simpa using this
theorem deadP_eq {pos : List Int} {n : Nat} (hl : pos.length ≤ LB) (hn : pos.length < n) : deadP n pos = some (deadB pos) := by
  have hb : LB ≤ 9223372036854775806 := by decide
  have key : ∀ (k i n : Nat), i + k = pos.length → k + 1 ≤ n → deadP_m pos n (.l1 (i : Int)) = some ((pos.drop i).any (· == 0)) := by
    intro k
    induction k with
    | zero =>
      intro i n e hn
      obtain ⟨n, rfl⟩ : ∃ k, n = k + 1 := ⟨n - 1, by omega⟩
      show deadP_l1 n (deadP_m pos n) pos (i : Int) = _
      unfold deadP_l1
      rw [decide_eq_false (by omega), cond_false, List.drop_eq_nil_of_le (by omega)]; rfl
    | succ k ih =>
      intro i n e hn
      obtain ⟨n, rfl⟩ : ∃ k, n = k + 1 := ⟨n - 1, by omega⟩
      have hi : i < pos.length := by omega
      have e2 : pos.drop i = pos.getD i 0 :: pos.drop (i + 1) := by
        rw [List.drop_eq_getElem_cons hi, List.getD_eq_getElem?_getD, List.getElem?_eq_getElem hi]; rfl
      have := ih (i + 1) n (by omega) (by omega)
      show deadP_l1 n (deadP_m pos n) pos (i : Int) = _
      unfold deadP_l1
      rw [decide_eq_true (by omega), cond_true, if_pos ⟨by omega, by omega⟩, if_pos (R64_iff.2 ⟨by omega, by omega⟩), Int.toNat_natCast, e2, List.any_cons]
      cases h : (pos.getD i 0 == 0)
      · rw [cond_false, Bool.false_or]; exact this
      · rfl
  have := key pos.length 0 n (by omega) (by omega)
  unfold deadP deadP_l0
  exact this
theorem isDead_eq {pos : List Int} {n : Nat} (hl : pos.length ≤ LB) (hn : pos.length < n) : isDead n pos = some (deadB pos) := by
  unfold isDead isDead_l0
  rw [deadP_eq hl hn]; rfl
/-- The sets of a position. -/
def posOk (q : ProbD) (pos : List Int) : Bool := ((pos.length : Int) == q.cells) && pos.all fun x => decide (0 ≤ x) && decide (x < 2 ^ q.symbols.toNat)
def pcheckV (q : ProbD) (pos : List Int) : Int := if validB q then (if posOk q pos then 0 else 250) else 191
section
variable {q : ProbD} {i : Int} {pos : List Int} {n : Nat}
theorem pcheck_eq (hF : Fit q) (hn : szP q ≤ n) (hl : pos.length ≤ LB) (hn2 : pos.length < n) : pcheck n q pos = some (pcheckV q pos) := by
  have hb : LB ≤ 9223372036854775806 := by decide
  unfold pcheck pcheck_l0 pcheckV
  rw [valid_eq hF hn, Option.bind_some]
  cases hv : validB q with
  | false => rfl
  | true =>
    obtain ⟨_, hs, _⟩ := validB_parts hv
    obtain ⟨p1, p2, p3⟩ := pow_facts hs.1 hs.2
    show (bif ((pos.length : Int) != q.cells) then some 250 else pcheck_m q pos n (.l1 0)) = some (if posOk q pos = true then 0 else 250)
    unfold posOk
    by_cases hlen : (pos.length : Int) = q.cells
    · have h1 : ((pos.length : Int) != q.cells) = false := by simpa using hlen
      have h2 : ((pos.length : Int) == q.cells) = true := by simpa using hlen
      rw [h1, cond_false, h2, Bool.true_and]
      have key : ∀ (k i n : Nat), i + k = pos.length → k + 1 ≤ n → pcheck_m q pos n (.l1 (i : Int)) = some (if ((pos.drop i).all fun x => decide (0 ≤ x) && decide (x < 2 ^ q.symbols.toNat)) = true then 0 else 250) := by
        intro k
        induction k with
        | zero =>
          intro i n e hn
          obtain ⟨n, rfl⟩ : ∃ k, n = k + 1 := ⟨n - 1, by omega⟩
          show pcheck_l1 n (pcheck_m q pos n) q pos (i : Int) = _
          unfold pcheck_l1
          rw [decide_eq_false (by omega), cond_false, List.drop_eq_nil_of_le (by omega)]; rfl
        | succ k ih =>
          intro i n e hn
          obtain ⟨n, rfl⟩ : ∃ k, n = k + 1 := ⟨n - 1, by omega⟩
          have hi : i < pos.length := by omega
          have e2 : pos.drop i = pos.getD i 0 :: pos.drop (i + 1) := by
            rw [List.drop_eq_getElem_cons hi, List.getD_eq_getElem?_getD, List.getElem?_eq_getElem hi]; rfl
          have := ih (i + 1) n (by omega) (by omega)
          show pcheck_l1 n (pcheck_m q pos n) q pos (i : Int) = _
          unfold pcheck_l1
          rw [decide_eq_true (by omega), cond_true, if_pos ⟨by omega, by omega⟩, if_pos p3, if_pos (R64_iff.2 ⟨by omega, by omega⟩), Int.toNat_natCast, e2, List.all_cons, p1]
          by_cases c1 : pos.getD i 0 < 0
          · rw [decide_eq_true c1, cond_true, decide_eq_false (p := 0 ≤ pos.getD i 0) (by omega)]; rfl
          · rw [decide_eq_false c1, cond_false, decide_eq_true (p := 0 ≤ pos.getD i 0) (by omega), Bool.true_and]
            by_cases c2 : pos.getD i 0 ≥ 2 ^ q.symbols.toNat
            · rw [decide_eq_true c2, cond_true, decide_eq_false (p := pos.getD i 0 < 2 ^ q.symbols.toNat) (by omega)]; rfl
            · rw [decide_eq_false c2, cond_false, decide_eq_true (p := pos.getD i 0 < 2 ^ q.symbols.toNat) (by omega), Bool.true_and]
              exact this
      exact key pos.length 0 n (by omega) (by omega)
    · have h1 : ((pos.length : Int) != q.cells) = true := by simpa using hlen
      have h2 : ((pos.length : Int) == q.cells) = false := by simpa using hlen
      rw [h1, cond_true, h2, Bool.false_and]; rfl
def checkV (q : ProbD) (i : Int) (pos : List Int) : Int := if (levelM q i).2 = 0 then pcheckV q pos else (levelM q i).2
theorem checkP_eq (hF : Fit q) (hn : szP q ≤ n) (hl : pos.length ≤ LB) (hn2 : pos.length < n) : checkP n q i pos = some (checkV q i pos) := by
  unfold checkP checkP_l0 checkV
  rw [levelP_eq hF hn, Option.bind_some, pcheck_eq hF hn hl hn2, Option.bind_some]
  by_cases h : (levelM q i).2 = 0
  · have : ((levelM q i).2 != 0) = false := by simpa using h
    rw [this, if_pos h]; rfl
  · have : ((levelM q i).2 != 0) = true := by simpa using h
    rw [this, if_neg h]; rfl
/-- What pruning works on. -/
structure Ctx (q : ProbD) (i : Int) (pos : List Int) : Prop where
  fit : Fit q
  valid : validB q = true
  i0 : 0 ≤ i
  i1 : i < (q.cons.length : Int)
  pos : posOk q pos = true
def con (q : ProbD) (i : Int) : ConsD := q.cons.getD i.toNat default
theorem Ctx.of (hF : Fit q) (h : checkV q i pos = 0) : Ctx q i pos := by
  unfold checkV levelM pcheckV at h
  by_cases hv : validB q = false
  · rw [if_pos hv] at h
    rw [if_neg (by decide)] at h
    exact absurd h (by decide)
  · rw [if_neg hv] at h
    have hv : validB q = true := by simpa using hv
    by_cases hi : 0 ≤ i ∧ i < (q.cons.length : Int)
    · rw [if_pos hi, if_pos rfl, if_pos hv] at h
      by_cases hp : posOk q pos = true
      · exact ⟨hF, hv, hi.1, hi.2, hp⟩
      · rw [if_neg hp] at h
        exact absurd h (by decide)
    · rw [if_neg hi, if_neg (by decide)] at h
      exact absurd h (by decide)
theorem Ctx.check (C : Ctx q i pos) : checkV q i pos = 0 := by
  have h1 : levelM q i = (lvl ((q.cons.getD i.toNat default).kind), 0) := by
    unfold levelM
    rw [if_neg (by rw [C.valid]; exact fun h => by cases h), if_pos ⟨C.i0, C.i1⟩]
  unfold checkV pcheckV
  rw [h1, if_pos rfl, if_pos C.valid, if_pos C.pos]
theorem Ctx.mem (C : Ctx q i pos) : con q i ∈ q.cons := by
  have h := C.i0
  have h1 := C.i1
  unfold con
  rw [List.getD_eq_getElem?_getD, List.getElem?_eq_getElem (by omega)]; exact List.getElem_mem _
theorem Ctx.fine (C : Ctx q i pos) : fineB q (con q i) = true := (validB_parts C.valid).2.2.2.2.2 _ C.mem
theorem Ctx.kind (C : Ctx q i pos) : kindOk q.cells (con q i).kind (con q i).cells.length = true := kind_of_fine C.fine
theorem Ctx.len (C : Ctx q i pos) : (pos.length : Int) = q.cells := by
  have h := C.pos
  unfold posOk at h
  rw [Bool.and_eq_true, beq_iff_eq] at h
  exact h.1
theorem Ctx.sm (C : Ctx q i pos) : ∀ j, j < pos.length → Sm q.symbols.toNat (pos.getD j 0) := by
  intro j hj
  have h := C.pos
  unfold posOk at h
  rw [Bool.and_eq_true, List.all_eq_true] at h
  have hm : pos.getD j 0 ∈ pos := by rw [List.getD_eq_getElem?_getD, List.getElem?_eq_getElem hj]; exact List.getElem_mem hj
  have := h.2 _ hm
  rw [Bool.and_eq_true, decide_eq_true_iff, decide_eq_true_iff] at this
  exact this
theorem Ctx.len256 (C : Ctx q i pos) : 0 < pos.length ∧ pos.length ≤ 256 := by
  have h := (validB_parts C.valid).1
  have := C.len
  omega
theorem Ctx.cells (C : Ctx q i pos) : (∀ x ∈ (con q i).cells, 0 ≤ x ∧ x < q.cells) ∧ (con q i).cells.Nodup ∧ (8 ≤ (con q i).kind → ∀ j, j < (con q i).cells.length → (con q i).cells.getD j 0 = (j : Int)) := by
  have h := C.fine
  unfold fineB at h
  simp only [Bool.and_eq_true] at h
  exact cellsOk_iff.1 h.1.1.1.1.1
theorem Ctx.work (C : Ctx q i pos) : Work (con q i) q.symbols.toNat pos := by
  obtain ⟨h1, h2, _⟩ := C.cells
  have hl := C.len
  have h3 := (validB_parts C.valid).1
  have h4 := (validB_parts C.valid).2.1
  refine ⟨fun a ha => ?_, ?_, C.sm, by omega⟩
  · rw [hl]
    refine h1 _ ?_
    rw [List.getD_eq_getElem?_getD, List.getElem?_eq_getElem ha]; exact List.getElem_mem ha
  · have := nodup_le pos.length _ h2 fun x hx => by rw [hl]; exact h1 x hx
    omega
theorem Ctx.vals (C : Ctx q i pos) : Vals q q.symbols.toNat := by
  obtain ⟨_, h2, ⟨h3, h4⟩, _⟩ := validB_parts C.valid
  rw [within_iff] at h4
  refine ⟨by omega, fun s hs => h4 _ ?_⟩
  rw [List.getD_eq_getElem?_getD, List.getElem?_eq_getElem (by omega)]; exact List.getElem_mem _
theorem Ctx.runs (C : Ctx q i pos) : RunsOk (con q i) := by
  have h := C.fine
  unfold fineB at h
  simp only [Bool.and_eq_true, decide_eq_true_iff] at h
  have h2 := within_iff.1 h.2
  refine ⟨by have := h.1.2; omega, fun j hj => (h2 _ ?_).2⟩
  rw [List.getD_eq_getElem?_getD, List.getElem?_eq_getElem hj]; exact List.getElem_mem hj
theorem Ctx.two (C : Ctx q i pos) (hk : (con q i).kind = 6 ∨ (con q i).kind = 7) : (con q i).cells.length = 2 := by
  have h := C.kind
  unfold kindOk at h
  rcases hk with hk | hk <;> rw [hk] at h <;> simpa using h
theorem Ctx.all (C : Ctx q i pos) (hk : (con q i).kind = 8 ∨ (con q i).kind = 9) (hd : deadB pos = false) : WorkAll (con q i) q pos := by
  have h := C.kind
  have hl := C.len
  have h256 := C.len256
  have h1 : ((con q i).cells.length : Int) = q.cells := by
    unfold kindOk at h
    rcases hk with hk | hk <;> rw [hk] at h <;> simpa using h
  obtain ⟨_, _, _, ⟨h5, h6⟩, _⟩ := validB_parts C.valid
  exact ⟨by omega, fun j hj => C.cells.2.2 (by omega) j (by omega), ⟨h6, C.fit.nbrs⟩, by omega, h256.1, h256.2, fun j hj => ⟨(C.sm j hj).in64 (Nat.le_trans C.work.k (by decide)), deadB_false.1 hd j hj⟩⟩
end
/-- Whether the constraint does not fail. -/
def okC (q : ProbD) (c : ConsD) (pos : List Int) : Prop :=
  (c.kind = 2 → countOk c pos = true) ∧ (c.kind = 3 → sumOk q c pos = true) ∧ (c.kind = 5 → runsOk c = true) ∧ (c.kind = 9 → loopOk c q pos)
/-- What the constraint's cell with an index loses. -/
def lostC (q : ProbD) (c : ConsD) (pos : List Int) (a s : Nat) : Prop :=
  (c.kind = 1 ∧ diffD c pos a s) ∨ (c.kind = 2 ∧ countX c pos a s = true) ∨ (c.kind = 3 ∧ sumX q c pos a s = true) ∨ (c.kind = 4 ∧ riseX q c pos a s = true) ∨ (c.kind = 5 ∧ runsD c pos a s) ∨
  (c.kind = 6 ∧ pairD (okA q c) c pos a s) ∨ (c.kind = 7 ∧ pairD (okN c) c pos a s) ∨ (c.kind = 8 ∧ connD c q pos a s) ∨ (c.kind = 9 ∧ loopD c q pos a s)
/-- What a rule answers. -/
def KP (q : ProbD) (c : ConsD) (pos : List Int) (r : Bool × List Int) : Prop := (r.1 = true ↔ okC q c pos) ∧ (r.1 = true → LostBy c pos (List.replicate pos.length 0) c.cells.length (lostC q c pos) r.2)
/-- What a cell loses. -/
def LC (q : ProbD) (c : ConsD) (pos : List Int) (j s : Nat) : Prop := ∃ a, a < c.cells.length ∧ (c.cells.getD a 0).toNat = j ∧ lostC q c pos a s
structure Alive (q : ProbD) (c : ConsD) (pos : List Int) : Prop where
  nz : ∀ j, j < pos.length → pos.getD j 0 ≠ 0
  ok : okC q c pos
  left : ∀ j, j < pos.length → ∃ s, s < 64 ∧ tb (pos.getD j 0) s = true ∧ ¬ LC q c pos j s
/-- What a position becomes. -/
structure PR (q : ProbD) (c : ConsD) (pos x : List Int) : Prop where
  len : x.length = pos.length
  live : Alive q c pos → ∀ j, j < pos.length → In64 (x.getD j 0) ∧ ∀ s, tb (x.getD j 0) s = true ↔ tb (pos.getD j 0) s = true ∧ ¬ LC q c pos j s
  dead : ¬ Alive q c pos → x = List.replicate pos.length 0
theorem PR.uniq {q : ProbD} {c : ConsD} {pos : List Int} (x y : List Int) (h : PR q c pos x) (h' : PR q c pos y) : x = y := by
  by_cases hA : Alive q c pos
  · have e : x.length = y.length := h.len.trans h'.len.symm
    refine List.ext_getElem e fun j h1 h2 => ?_
    have hj : j < pos.length := by rw [← h.len]; exact h1
    have e1 : x.getD j 0 = x[j] := by simp [h1]
    have e2 : y.getD j 0 = y[j] := by simp [h2]
    rw [← e1, ← e2]
    refine tb_ext (h.live hA j hj).1 (h'.live hA j hj).1 fun s _ => ?_
    rw [Bool.eq_iff_iff, (h.live hA j hj).2, (h'.live hA j hj).2]
  · rw [h.dead hA, h'.dead hA]
section
variable {q : ProbD} {i : Int} {pos : List Int}
theorem zlen : (List.replicate pos.length (0 : Int)).length = pos.length := List.length_replicate
theorem zat (j : Nat) : (List.replicate pos.length (0 : Int)).getD j 0 = 0 := by
  rw [List.getD_eq_getElem?_getD, List.getElem?_replicate]; split <;> rfl
theorem zin : ∀ j, In64 ((List.replicate pos.length (0 : Int)).getD j 0) := fun j => by rw [zat]; exact ⟨by decide, by decide⟩
theorem zlost : LostAt pos (List.replicate pos.length 0) (fun _ _ => False) (List.replicate pos.length 0) := ⟨⟨zlen, zin⟩, fun j s => by simp⟩
theorem LostBy.congr {c : ConsD} {lost l : List Int} {D D' : Nat → Nat → Prop} {m : Nat} (h : LostBy c pos lost m D l) (hD : ∀ a s, D' a s ↔ D a s) : LostBy c pos lost m D' l := by
  refine ⟨h.1, fun j s => ?_⟩
  rw [h.2]
  simp only [hD]
def ruleF (n : Nat) (q : ProbD) (c : ConsD) (pos : List Int) : Option (Bool × List Int) :=
  bif c.kind == 1 then diffW n c q pos pos.length (List.replicate pos.length 0) else bif c.kind == 2 then countW n c q pos pos.length (List.replicate pos.length 0) else
  bif c.kind == 3 then sumW n c q pos pos.length (List.replicate pos.length 0) else bif c.kind == 4 then riseW n c q pos pos.length (List.replicate pos.length 0) else
  bif c.kind == 5 then runsW n c q pos pos.length (List.replicate pos.length 0) else bif c.kind == 6 then apartW n c q pos pos.length (List.replicate pos.length 0) else
  bif c.kind == 7 then notW n c q pos pos.length (List.replicate pos.length 0) else bif c.kind == 8 then connW n c q pos pos.length (List.replicate pos.length 0) else
  bif c.kind == 9 then loopW n c q pos pos.length (List.replicate pos.length 0) else none
theorem rule_ev (C : Ctx q i pos) (hd : deadB pos = false) : PEv (fun n => ruleF n q (con q i) pos) (KP q (con q i) pos) := by
  have W := C.work
  have hz : (List.replicate pos.length (0 : Int)).length = pos.length := zlen
  have all : ∀ k : Int, (con q i).kind = k → ∀ {f : Nat → Option (Bool × List Int)} {N : Nat} {ok : Bool} {D : Nat → Nat → Prop}, (∀ n, N ≤ n → ∃ l, f n = some (ok, l) ∧ (ok = true → LostBy (con q i) pos (List.replicate pos.length 0) (con q i).cells.length D l)) → (ok = true ↔ okC q (con q i) pos) → (∀ a s, lostC q (con q i) pos a s ↔ D a s) → PEv f (KP q (con q i) pos) := by
    intro k _ f N ok D h hok hD
    refine ⟨N, fun n hn => ?_⟩
    obtain ⟨l, h1, h2⟩ := h n hn
    exact ⟨(ok, l), h1, hok, fun h3 => (h2 h3).congr hD⟩
  have kc := kind_cases (kind_range C.kind)
  have okT : ∀ {k : Int}, (con q i).kind = k → k ≠ 2 → k ≠ 3 → k ≠ 5 → k ≠ 9 → okC q (con q i) pos := fun hk h2 h3 h5 h9 => ⟨fun h => absurd (hk.symm.trans h) h2, fun h => absurd (hk.symm.trans h) h3, fun h => absurd (hk.symm.trans h) h5, fun h => absurd (hk.symm.trans h) h9⟩
  rcases kc with hk | hk | hk | hk | hk | hk | hk | hk | hk
  · refine PEv.eq (all 1 hk (f := fun n => diffW n (con q i) q pos pos.length (List.replicate pos.length 0)) (N := 2 * (con q i).cells.length + 2) (ok := true) (D := diffD (con q i) pos) (fun n hn => ?_) ⟨fun _ => okT hk (by decide) (by decide) (by decide) (by decide), fun _ => rfl⟩ fun a s => ?_) fun n => ?_
    · obtain ⟨l, h1, h2⟩ := diff_some (q := q) W hz hn
      exact ⟨l, h1, fun _ => h2⟩
    · unfold lostC; rw [hk]; simp
    · unfold ruleF; rw [hk]; rfl
  · refine PEv.eq (all 2 hk (f := fun n => countW n (con q i) q pos pos.length (List.replicate pos.length 0)) (N := 2 * (con q i).cells.length + 3) (ok := countOk (con q i) pos) (D := fun a s => countX (con q i) pos a s = true) (fun n hn => ?_) ⟨fun h => ⟨fun _ => h, fun h => absurd (hk.symm.trans h) (by decide), fun h => absurd (hk.symm.trans h) (by decide), fun h => absurd (hk.symm.trans h) (by decide)⟩, fun h => h.1 hk⟩ fun a s => ?_) fun n => ?_
    · exact count_some (q := q) W hz hn
    · unfold lostC; rw [hk]; simp
    · unfold ruleF; rw [hk]; rfl
  · refine PEv.eq (all 3 hk (f := fun n => sumW n (con q i) q pos pos.length (List.replicate pos.length 0)) (N := 2 * (con q i).cells.length + 3) (ok := sumOk q (con q i) pos) (D := fun a s => sumX q (con q i) pos a s = true) (fun n hn => ?_) ⟨fun h => ⟨fun h => absurd (hk.symm.trans h) (by decide), fun _ => h, fun h => absurd (hk.symm.trans h) (by decide), fun h => absurd (hk.symm.trans h) (by decide)⟩, fun h => h.2.1 hk⟩ fun a s => ?_) fun n => ?_
    · exact sum_some W C.vals hz hn
    · unfold lostC; rw [hk]; simp
    · unfold ruleF; rw [hk]; rfl
  · refine PEv.eq (all 4 hk (f := fun n => riseW n (con q i) q pos pos.length (List.replicate pos.length 0)) (N := 2 * (con q i).cells.length + 3) (ok := true) (D := fun a s => riseX q (con q i) pos a s = true) (fun n hn => ?_) ⟨fun _ => okT hk (by decide) (by decide) (by decide) (by decide), fun _ => rfl⟩ fun a s => ?_) fun n => ?_
    · obtain ⟨l, h1, h2⟩ := rise_some W C.vals hz hn
      exact ⟨l, h1, fun _ => h2⟩
    · unfold lostC; rw [hk]; simp
    · unfold ruleF; rw [hk]; rfl
  · obtain ⟨l, ⟨N, h1⟩, h2⟩ := runs_ev (q := q) W C.runs hz zin
    refine PEv.eq (all 5 hk (N := N) (ok := runsOk (con q i)) (D := runsD (con q i) pos) (fun n hn => ⟨l, h1 n hn, h2⟩) ⟨fun h => ⟨fun h => absurd (hk.symm.trans h) (by decide), fun h => absurd (hk.symm.trans h) (by decide), fun _ => h, fun h => absurd (hk.symm.trans h) (by decide)⟩, fun h => h.2.2.1 hk⟩ fun a s => ?_) fun n => ?_
    · unfold lostC; rw [hk]; simp
    · unfold ruleF; rw [hk]; rfl
  · refine PEv.eq (all 6 hk (f := fun n => apartW n (con q i) q pos pos.length (List.replicate pos.length 0)) (N := 0) (ok := true) (D := pairD (okA q (con q i)) (con q i) pos) (fun n hn => ?_) ⟨fun _ => okT hk (by decide) (by decide) (by decide) (by decide), fun _ => rfl⟩ fun a s => ?_) fun n => ?_
    · obtain ⟨l, h1, h2⟩ := apartW_some (n := n) W C.vals (C.two (.inl hk)) hz
      exact ⟨l, h1, fun _ => h2⟩
    · unfold lostC; rw [hk]; simp
    · unfold ruleF; rw [hk]; rfl
  · refine PEv.eq (all 7 hk (f := fun n => notW n (con q i) q pos pos.length (List.replicate pos.length 0)) (N := 0) (ok := true) (D := pairD (okN (con q i)) (con q i) pos) (fun n hn => ?_) ⟨fun _ => okT hk (by decide) (by decide) (by decide) (by decide), fun _ => rfl⟩ fun a s => ?_) fun n => ?_
    · obtain ⟨l, h1, h2⟩ := notW_some (n := n) (q := q) W (C.two (.inr hk)) hz
      exact ⟨l, h1, fun _ => h2⟩
    · unfold lostC; rw [hk]; simp
    · unfold ruleF; rw [hk]; rfl
  · obtain ⟨l, ⟨N, h1⟩, h2⟩ := conn_ev (C.all (.inl hk) hd) zlost
    refine PEv.eq (all 8 hk (N := N) (ok := true) (D := connD (con q i) q pos) (fun n hn => ⟨l, h1 n hn, fun _ => h2.by (C.all (.inl hk) hd)⟩) ⟨fun _ => okT hk (by decide) (by decide) (by decide) (by decide), fun _ => rfl⟩ fun a s => ?_) fun n => ?_
    · unfold lostC; rw [hk]; simp
    · unfold ruleF; rw [hk]; rfl
  · refine PEv.eq ((loop_ev (C.all (.inr hk) hd) zlost).mono fun r hr => ⟨?_, fun h => ((hr.2 h).by (C.all (.inr hk) hd)).congr fun a s => ?_⟩) fun n => ?_
    · rw [hr.1]
      exact ⟨fun h => ⟨fun h => absurd (hk.symm.trans h) (by decide), fun h => absurd (hk.symm.trans h) (by decide), fun h => absurd (hk.symm.trans h) (by decide), fun _ => h⟩, fun h => h.2.2.2 hk⟩
    · unfold lostC; rw [hk]; simp
    · unfold ruleF; rw [hk]; rfl
/-- The symbols that were lost are taken out. -/
theorem taken {n : Nat} {o2 : List Int} (hl : o2.length = pos.length) (h256 : pos.length ≤ 256) (hn : 600 ≤ n) :
    ∃ x, x.length = pos.length ∧ (∀ j, j < pos.length → x.getD j 0 = bits .andNot .i64 (pos.getD j 0) (o2.getD j 0)) ∧ prunedP_m q i pos n (.l2 pos.length (pos.length : Int) 0 o2 pos) = some (if deadB x then List.replicate pos.length 0 else x) := by
  have lb : (256 : Nat) ≤ LB := by decide
  obtain ⟨n1, x, hn1, _, e, hx, hx1, hx2⟩ := loop0 (fun n (o3 : List Int) k => prunedP_m q i pos n (.l2 pos.length (pos.length : Int) k o2 o3)) pos.length 260
    (fun k o3 => o3.length = pos.length ∧ (∀ j, j < k → o3.getD j 0 = bits .andNot .i64 (pos.getD j 0) (o2.getD j 0)) ∧ ∀ j, k ≤ j → o3.getD j 0 = pos.getD j 0) (fun n k o3 hn0 hk hI => by
      obtain ⟨h1, h2, h3⟩ := hI
      show ∃ s', prunedP_l2 n (prunedP_m q i pos n) q i pos pos.length (pos.length : Int) (k : Int) o2 o3 = _ ∧ _
      unfold prunedP_l2
      simp only [Int.toNat_natCast, Nat.zero_add]
      rw [decide_eq_true (by omega), cond_true, if_pos ⟨⟨by omega, by omega⟩, by omega, ⟨by omega, by omega⟩, by omega, R64_iff.2 ⟨by omega, by omega⟩⟩]
      refine ⟨_, rfl, by rw [List.length_set]; exact h1, fun j hj => ?_, fun j hj => ?_⟩
      · by_cases e : k = j
        · subst e; rw [getD_set_self (by omega), h3 k (by omega)]
        · rw [getD_set_ne e]; exact h2 j (by omega)
      · rw [getD_set_ne (by omega)]; exact h3 j (by omega)) (n := n) (s := pos) (by omega) ⟨rfl, fun j hj => absurd hj (Nat.not_lt_zero j), fun j _ => rfl⟩
  obtain ⟨n2, rfl⟩ : ∃ n2, n1 = n2 + 1 := ⟨n1 - 1, by omega⟩
  refine ⟨x, hx, hx1, Eq.trans e ?_⟩
  show prunedP_l2 n2 (prunedP_m q i pos n2) q i pos pos.length (pos.length : Int) (pos.length : Int) o2 x = _
  unfold prunedP_l2
  rw [decide_eq_false (by omega), cond_false, if_pos hx.symm, isDead_eq (by omega) (by omega), Option.bind_some]
  cases deadB x
  · rfl
  · rw [cond_true, if_pos zlen.symm]; rfl
def tailF (n : Nat) (q : ProbD) (i : Int) (pos : List Int) (y2 : Bool × List Int) : Option (List Int) :=
  bif (!y2.1) then (if pos.length = (List.replicate pos.length (0 : Int)).length then some (List.replicate pos.length (0 : Int)) else none) else prunedP_m q i pos n (.l1 y2.2)
theorem tail_ev (C : Ctx q i pos) (hd : deadB pos = false) {n : Nat} (hn : 601 ≤ n) {y2 : Bool × List Int} (hy : KP q (con q i) pos y2) : ∃ x, tailF n q i pos y2 = some x ∧ PR q (con q i) pos x := by
  have h256 := C.len256
  have L : (1000000000000 : Nat) = LIM := rfl
  have nz := deadB_false.1 hd
  obtain ⟨b, lost⟩ := y2
  obtain ⟨hok, hlost⟩ := hy
  unfold tailF
  cases b with
  | false =>
    refine ⟨_, by rw [Bool.not_false, cond_true, if_pos zlen.symm], zlen, fun hA => ?_, fun _ => rfl⟩
    have := hok.2 hA.ok
    cases this
  | true =>
    have hok := hok.1 rfl
    have hlost : LostBy (con q i) pos (List.replicate pos.length 0) (con q i).cells.length (lostC q (con q i) pos) lost := hlost rfl
    obtain ⟨n, rfl⟩ : ∃ k, n = k + 1 := ⟨n - 1, by omega⟩
    obtain ⟨x, h1, h2, h3⟩ := taken (q := q) (i := i) (n := n) hlost.1 h256.2 (by omega)
    have hx : ∀ j, j < pos.length → In64 (x.getD j 0) ∧ ∀ s, tb (x.getD j 0) s = true ↔ tb (pos.getD j 0) s = true ∧ ¬ LC q (con q i) pos j s := fun j hj => by
      rw [h2 j hj]
      refine ⟨bits_in _ _ _, fun s => ?_⟩
      rw [tb_andNot, Bool.and_eq_true, Bool.not_eq_true', ← Bool.not_eq_true, hlost.2, zat]
      constructor
      · rintro ⟨h4, h5⟩
        refine ⟨h4, fun ⟨a, ha, e, hs⟩ => h5 (.inr ⟨a, ha, e, ?_, hs⟩)⟩
        show tb (pos.getD ((con q i).cells.getD a 0).toNat 0) s = true
        rw [e]; exact h4
      · rintro ⟨h4, h5⟩
        refine ⟨h4, fun h6 => h6.elim (fun h => tb0 h) fun ⟨a, ha, e, _, hs⟩ => h5 ⟨a, ha, e, hs⟩⟩
    have hcl : cloneI n pos = some pos := by
      unfold cloneI cloneI_l0
      rw [if_pos ⟨h256.1, trivial, ⟨rfl, rfl⟩, by rw [← L]; simp only [List.length_nil]; omega⟩, if_pos (by simp)]; rfl
    have e : prunedP_m q i pos (n + 1) (.l1 lost) = some (if deadB x then List.replicate pos.length 0 else x) := by
      show prunedP_l1 n (prunedP_m q i pos n) q i pos lost = _
      unfold prunedP_l1
      rw [hcl, Option.bind_some]; exact h3
    refine ⟨_, by rw [Bool.not_true, cond_false]; exact e, ?_, fun hA j hj => ?_, fun hA => ?_⟩
    · split
      · exact zlen
      · exact h1
    · rw [if_neg]
      · exact hx j hj
      · rw [Bool.not_eq_true, deadB_false]
        intro j hj
        rw [h1] at hj
        obtain ⟨s, hs, h4, h5⟩ := hA.left j hj
        exact (tb_ne_zero (hx j hj).1).2 ⟨s, hs, ((hx j hj).2 s).2 ⟨h4, h5⟩⟩
    · rw [if_pos]
      refine Classical.byContradiction fun h => hA ?_
      rw [Bool.not_eq_true, deadB_false] at h
      refine ⟨nz, hok, fun j hj => ?_⟩
      obtain ⟨s, hs, h4⟩ := (tb_ne_zero (hx j hj).1).1 (h j (by omega))
      exact ⟨s, hs, ((hx j hj).2 s).1 h4⟩
theorem pruned_ev (C : Ctx q i pos) : ∃ x, Ev (fun n => prunedP n q i pos) x ∧ PR q (con q i) pos x := by
  have h256 := C.len256
  have lb : (256 : Nat) ≤ LB := by decide
  have hi : 0 ≤ i ∧ i < (q.cons.length : Int) := ⟨C.i0, C.i1⟩
  cases hd : deadB pos
  · suffices H : PEv (fun n => prunedP n q i pos) (PR q (con q i) pos) by
      obtain ⟨x, h1, h2⟩ := H.ev PR.uniq
      exact ⟨x, h2, h1⟩
    obtain ⟨N, hN⟩ := PEv.bindU (rule_ev C hd) (b := fun n y2 => tailF n q i pos y2) (Q := PR q (con q i) pos) ⟨601, fun n hn y2 hy => tail_ev C hd hn hy⟩
    refine ⟨N + 300, fun n hn => ?_⟩
    obtain ⟨x, h1, h2⟩ := hN n (by omega)
    refine ⟨x, Eq.trans ?_ h1, h2⟩
    show prunedP n q i pos = (ruleF n q (con q i) pos).bind fun y2 => tailF n q i pos y2
    unfold prunedP prunedP_l0
    rw [if_pos ⟨rfl, by omega, by omega⟩, isDead_eq (by omega) (by omega), hd, Option.bind_some, cond_false, if_pos hi]
    have hc : q.cons.getD i.toNat default = con q i := rfl
    rw [hc]
    have kc := kind_cases (kind_range C.kind)
    unfold ruleF
    rcases kc with hk | hk | hk | hk | hk | hk | hk | hk | hk <;> rw [hk] <;> rfl
  · refine ⟨List.replicate pos.length 0, ⟨300, fun n hn => ?_⟩, zlen, fun hA => ?_, fun _ => rfl⟩
    · show prunedP n q i pos = _
      unfold prunedP prunedP_l0
      rw [if_pos ⟨rfl, by omega, by omega⟩, isDead_eq (by omega) (by omega), hd, Option.bind_some, cond_true, if_pos zlen.symm]
    · have := deadB_false.2 hA.nz
      rw [hd] at this; cases this
/-- What Prune answers. -/
def PrP (q : ProbD) (i : Int) (pos : List Int) (r : List Int × Int) : Prop := r.2 = checkV q i pos ∧ (r.2 = 0 → PR q (con q i) pos r.1) ∧ (r.2 ≠ 0 → r.1 = [])
theorem prune_ev (hF : Fit q) (hl : pos.length ≤ LB) : ∃ r, Ev (fun n => pruneP n q i pos) r ∧ PrP q i pos r := by
  have hE : Ev (fun n => checkP n q i pos) (checkV q i pos) := ⟨szP q + pos.length + 1, fun n hn => checkP_eq hF (by omega) hl (by omega)⟩
  by_cases h0 : checkV q i pos = 0
  · obtain ⟨x, h1, h2⟩ := pruned_ev (Ctx.of hF h0)
    refine ⟨(x, 0), ?_, h0.symm, fun _ => h2, fun h => absurd rfl h⟩
    refine Ev.eq (Ev.bind hE (b := fun n y1 => bif (y1 != 0) then some (([] : List Int), y1) else (prunedP n q i pos).bind fun y2 => some (y2, 0)) ?_) fun n => rfl
    rw [h0]
    exact Ev.bind h1 (b := fun _ y2 => some (y2, 0)) (Ev.now fun n => rfl)
  · refine ⟨([], checkV q i pos), ?_, rfl, fun h => absurd h h0, fun _ => rfl⟩
    refine Ev.eq (Ev.bind hE (b := fun n y1 => bif (y1 != 0) then some (([] : List Int), y1) else (prunedP n q i pos).bind fun y2 => some (y2, 0)) (Ev.now fun n => ?_)) fun n => rfl
    have : (checkV q i pos != 0) = true := by simpa using h0
    rw [this]; rfl
end
end Go.Proofs.YtekkngkphejfcaaDoor
