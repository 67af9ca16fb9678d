/- PruneRemoved: Prune returns what remains when the pairs of Lost are removed one after the other, for every problem, every index and every position. -/
import Derived.Test.YtekkngkphejfcaaDoorPkF
set_option linter.all false
namespace Go.Proofs.YtekkngkphejfcaaDoor
open Go.RowKit
set_option maxRecDepth 100000
set_option maxHeartbeats 40000000
theorem s_lawRemoved_15 : SOk (regF Tryd.f5 15) [] (List.range 35) [] := by unfold SOk; kernel_rfl
def sch_lawRemoved : Sch := fun i => match i with
  | 15 => .ord [] (List.range 35) []
  | _ => .no
def hp_lawRemoved_0 (q : ProbD) (x52 : List (Int × Int)) (x54 : Int) : DH := [some (.cells (probC q)), some (.cells [.i ((x52.getD ((x54).toNat) default).1), .i ((x52.getD ((x54).toNat) default).2)])]
inductive lawRemovedPt where
  | l1 (x7 : List Int) (x9 x52 : List (Int × Int)) (x53 : Int)
  | l2 (x7 : List Int) (x9 : List (Int × Int)) (x11t2 : List Int) (x52 : List (Int × Int)) (x53 x54 : Int)
def lawRemoved_l1 (n : Nat) (self : lawRemovedPt → Option Bool) (q : ProbD) (i : Int) (pos : List Int) (x7 : List Int) (x9 x52 : List (Int × Int)) (x53 : Int) : Option Bool :=
  bif (decide (0 < x53)) then
   if (0 : Int) ≤ 0 ∧ 0 < (x52.length : Int) then
    if ([] : List Int).length + pos.length = (([] : List Int) ++ pos).length then
     (removeP n q (([] : List Int) ++ pos) ((x52.getD 0 default).1) ((x52.getD 0 default).2)).bind fun y1 =>
      bif (y1.2 != 0) then
       some false
      else
       self (.l2 x7 x9 y1.1 x52 x53 1)
    else none
   else none
  else
   if ([] : List Int).length + pos.length = (([] : List Int) ++ pos).length then
    (same n x7 (([] : List Int) ++ pos)).bind fun y1 =>
     some y1
   else none
def lawRemoved_l2 (n : Nat) (self : lawRemovedPt → Option Bool) (q : ProbD) (i : Int) (pos : List Int) (x7 : List Int) (x9 : List (Int × Int)) (x11t2 : List Int) (x52 : List (Int × Int)) (x53 x54 : Int) : Option Bool :=
  bif (decide (x54 < x53)) then
   if 0 ≤ x54 ∧ x54 < (x52.length : Int) then
    bif (decide (x54 > 0)) then
     if R64 (x54 - 1) ∧ (0 ≤ (x54 - 1) ∧ (x54 - 1) < (x9.length : Int)) then
      bif (decide (((x9.getD (((x54 - 1)).toNat) default).1) > ((x52.getD ((x54).toNat) default).1))) then
       some false
      else
       bif (((x9.getD (((x54 - 1)).toNat) default).1) == ((x52.getD ((x54).toNat) default).1)) then
        bif (decide (((x9.getD (((x54 - 1)).toNat) default).2) ≥ ((x52.getD ((x54).toNat) default).2))) then
         some false
        else
         (removeP n q x11t2 ((x52.getD ((x54).toNat) default).1) ((x52.getD ((x54).toNat) default).2)).bind fun y1 =>
          bif (y1.2 != 0) then
           some false
          else
           if R64 (x54 + 1) then
            self (.l2 x7 x9 y1.1 x52 x53 (x54 + 1))
           else none
       else
        (removeP n q x11t2 ((x52.getD ((x54).toNat) default).1) ((x52.getD ((x54).toNat) default).2)).bind fun y1 =>
         bif (y1.2 != 0) then
          some false
         else
          if R64 (x54 + 1) then
           self (.l2 x7 x9 y1.1 x52 x53 (x54 + 1))
          else none
     else none
    else
     (removeP n q x11t2 ((x52.getD ((x54).toNat) default).1) ((x52.getD ((x54).toNat) default).2)).bind fun y1 =>
      bif (y1.2 != 0) then
       some false
      else
       if R64 (x54 + 1) then
        self (.l2 x7 x9 y1.1 x52 x53 (x54 + 1))
       else none
   else none
  else
   (same n x7 x11t2).bind fun y1 =>
    some y1
def lawRemoved_l0 (n : Nat) (self : lawRemovedPt → Option Bool) (q : ProbD) (i : Int) (pos : List Int) : Option Bool :=
  (sane n).bind fun y1 =>
   bif (!y1) then
    some false
   else
    (few n q pos).bind fun y2 =>
     bif (!y2) then
      some true
     else
      (pruneP n q i pos).bind fun y3 =>
       (lostP n q i pos).bind fun y4 =>
        bif (y3.2 != y4.2) then
         some false
        else
         bif (y3.2 != 0) then
          bif ((y3.1.length : Int) == 0) then
           some ((y4.1.length : Int) == 0)
          else
           some false
         else
          if (True) ∧ (0 = 0 ∧ 0 = ([] : List Int).length) ∧ ([] : List Int).length + pos.length ≤ LIM then
           self (.l1 y3.1 y4.1 y4.1 (y4.1.length : Int))
          else none
def lawRemoved_m (q : ProbD) (i : Int) (pos : List Int) : Nat → lawRemovedPt → Option Bool
  | 0, _ => none
  | n + 1, .l1 x7 x9 x52 x53 => lawRemoved_l1 n (lawRemoved_m q i pos n) q i pos x7 x9 x52 x53
  | n + 1, .l2 x7 x9 x11t2 x52 x53 x54 => lawRemoved_l2 n (lawRemoved_m q i pos n) q i pos x7 x9 x11t2 x52 x53 x54
def lawRemoved (n : Nat) (q : ProbD) (i : Int) (pos : List Int) : Option Bool := lawRemoved_l0 n (lawRemoved_m q i pos n) q i pos
/-- What the points stand for. -/
def lawRemoved_at (n : Nat) (B : Nat) (N : Yard Tryd.prog GG 0) (q : ProbD) (i : Int) (pos : List Int) (r : Bool) : lawRemovedPt → Prop
  | .l1 x7 x9 x52 x53 => ∀ m0 : Nat, n ≤ m0 → TrK Tryd.prog GG Fence.wide (some B) 0 N (Fin Tryd.prog Tryd.f5 0 (.bool r) []) (toN m0 (atNC (bodyC Tryd.f5) 0 [])) ⟨frm 111 [(3, .ref 0 0), (7, .ints x7), (9, .sl 2 x9.length (rowE iiC x9)), (11, .msl 1 1 0 (([] : List Int).length + pos.length)), (52, .sl 2 x52.length (rowE iiC x52)), (53, .i x53), (54, .i 0)], [some (.cells (probC q)), some (.ints (([] : List Int) ++ pos))]⟩
  | .l2 x7 x9 x11t2 x52 x53 x54 => ∀ m0 : Nat, n ≤ m0 → TrK Tryd.prog GG Fence.wide (some B) 0 N (Fin Tryd.prog Tryd.f5 0 (.bool r) []) (toN m0 (atNC (bodyC Tryd.f5) 0 [])) ⟨frm 111 [(3, .ref 0 0), (7, .ints x7), (9, .sl 2 x9.length (rowE iiC x9)), (11, .ints x11t2), (52, .sl 2 x52.length (rowE iiC x52)), (53, .i x53), (54, .i x54)], [some (.cells (probC q))]⟩
theorem lawRemoved_all (B : Nat) (N : Yard Tryd.prog GG 0) (q : ProbD) (i : Int) (pos : List Int) : ∀ (n : Nat) (pt : lawRemovedPt) (r : Bool), lawRemoved_m q i pos n pt = some r → lawRemoved_at n B N q i pos r pt := by
  intro n; induction n with
  | zero => intro _ _ h; cases h
  | succ n hself =>
   intro pt r h
   cases pt
   case l1 x7 x9 x52 x53 =>
    have h : lawRemoved_l1 n (lawRemoved_m q i pos n) q i pos x7 x9 x52 x53 = some r := h
    intro m0 hm0
    refine rd hm0 fun m0 hm0 => ?_
    unfold lawRemoved_l1 at h
    rcases bifSome h with ⟨c0, h⟩ | ⟨c0, h⟩
    · obtain ⟨g0, h⟩ := guardSome h
      obtain ⟨g1, h⟩ := guardSome h
      refine gz (stopAt 17 sch_lawRemoved) [0, 1, 2] (H0.b 55 c0 |>.g g0 |>.t |>.g s_lawRemoved_15) [1] (H0.g g1) (atGC (bodyC Tryd.f5) 17 [m0]) (frm 111 [(3, .ref 0 0), (7, .ints x7), (9, .sl 2 x9.length (rowE iiC x9)), (11, .ints (([] : List Int) ++ pos)), (13, .ref 2 0), (52, .sl 2 x52.length (rowE iiC x52)), (53, .i x53), (54, .i 0)]) [some (.cells (probC q)), none, some (.cells [.i ((x52.getD 0 default).1), .i ((x52.getD 0 default).2)])] ?_
      obtain ⟨y1, hy1, h⟩ := bindSome h
      have p := H0.g (by decide : (0 : Int) ≤ 0 ∧ 0 < ((2 : Nat) : Int)) |>.g (by decide : (0 : Int) ≤ 1 ∧ 1 < ((2 : Nat) : Int)) |>.c (fb (removeP_ok hy1) [some (.cells (probC q)), none, some (.cells [.i ((x52.getD 0 default).1), .i ((x52.getD 0 default).2)])])
      rcases bifSome h with ⟨c0, h⟩ | ⟨c0, h⟩
      · obtain rfl := Option.some.inj h
        exact ee sch_lawRemoved [6] [] (p.b 105 c0)
      · exact gg sch_lawRemoved [0] (p.b 105 c0) (hself _ _ h m0 hm0)
    · obtain ⟨g0, h⟩ := guardSome h
      obtain ⟨y1, hy1, h⟩ := bindSome h
      obtain rfl := Option.some.inj h
      exact ee sch_lawRemoved [6] [] (H0.b 55 c0 |>.c (sb [.ints x7, .msl 1 1 0 (([] : List Int).length + pos.length)] (same_ok hy1) [some (.cells (probC q)), some (.ints (([] : List Int) ++ pos))] ⟨Snap.plain (by kernel_rfl), Snap.ints rfl g0, trivial⟩))
   case l2 x7 x9 x11t2 x52 x53 x54 =>
    have h : lawRemoved_l2 n (lawRemoved_m q i pos n) q i pos x7 x9 x11t2 x52 x53 x54 = some r := h
    intro m0 hm0
    refine rd hm0 fun m0 hm0 => ?_
    unfold lawRemoved_l2 at h
    rcases bifSome h with ⟨c0, h⟩ | ⟨c0, h⟩
    · obtain ⟨g0, h⟩ := guardSome h
      have p := H0.b 55 c0 |>.g g0 |>.t |>.g s_lawRemoved_15
      rcases bifSome h with ⟨c1, h⟩ | ⟨c1, h⟩
      · obtain ⟨⟨g1, g2⟩, h⟩ := guardSome h
        have p := p.b 60 c1 |>.w 64 g1 |>.g g2 |>.g (by decide : (0 : Int) ≤ 0 ∧ 0 < ((2 : Nat) : Int)) |>.g (by decide : (0 : Int) ≤ 0 ∧ 0 < ((2 : Nat) : Int))
        rcases bifSome h with ⟨c2, h⟩ | ⟨c2, h⟩
        · obtain rfl := Option.some.inj h
          exact ee sch_lawRemoved [6] [] (p.b 70 c2)
        · have p := p.b 70 c2 |>.w 74 g1 |>.g g2 |>.g (by decide : (0 : Int) ≤ 0 ∧ 0 < ((2 : Nat) : Int)) |>.g (by decide : (0 : Int) ≤ 0 ∧ 0 < ((2 : Nat) : Int))
          rcases bifSome h with ⟨c3, h⟩ | ⟨c3, h⟩
          · have p := p.b 80 c3 |>.w 84 g1 |>.g g2 |>.g (by decide : (0 : Int) ≤ 1 ∧ 1 < ((2 : Nat) : Int)) |>.g (by decide : (0 : Int) ≤ 1 ∧ 1 < ((2 : Nat) : Int))
            rcases bifSome h with ⟨c4, h⟩ | ⟨c4, h⟩
            · obtain rfl := Option.some.inj h
              exact ee sch_lawRemoved [6] [] (p.b 90 c4)
            · obtain ⟨y1, hy1, h⟩ := bindSome h
              have p := p.b 90 c4 |>.g (by decide : (0 : Int) ≤ 0 ∧ 0 < ((2 : Nat) : Int)) |>.g (by decide : (0 : Int) ≤ 1 ∧ 1 < ((2 : Nat) : Int)) |>.c (fb (removeP_ok hy1) (hp_lawRemoved_0 q x52 x54))
              rcases bifSome h with ⟨c5, h⟩ | ⟨c5, h⟩
              · obtain rfl := Option.some.inj h
                exact ee sch_lawRemoved [6] [] (p.b 105 c5)
              · obtain ⟨g3, h⟩ := guardSome h
                exact gg sch_lawRemoved [0] (p.b 105 c5 |>.w 107 g3) (hself _ _ h m0 hm0)
          · obtain ⟨y1, hy1, h⟩ := bindSome h
            have p := p.b 80 c3 |>.g (by decide : (0 : Int) ≤ 0 ∧ 0 < ((2 : Nat) : Int)) |>.g (by decide : (0 : Int) ≤ 1 ∧ 1 < ((2 : Nat) : Int)) |>.c (fb (removeP_ok hy1) (hp_lawRemoved_0 q x52 x54))
            rcases bifSome h with ⟨c4, h⟩ | ⟨c4, h⟩
            · obtain rfl := Option.some.inj h
              exact ee sch_lawRemoved [6] [] (p.b 105 c4)
            · obtain ⟨g3, h⟩ := guardSome h
              exact gg sch_lawRemoved [0] (p.b 105 c4 |>.w 107 g3) (hself _ _ h m0 hm0)
      · obtain ⟨y1, hy1, h⟩ := bindSome h
        have p := p.b 60 c1 |>.g (by decide : (0 : Int) ≤ 0 ∧ 0 < ((2 : Nat) : Int)) |>.g (by decide : (0 : Int) ≤ 1 ∧ 1 < ((2 : Nat) : Int)) |>.c (fb (removeP_ok hy1) (hp_lawRemoved_0 q x52 x54))
        rcases bifSome h with ⟨c2, h⟩ | ⟨c2, h⟩
        · obtain rfl := Option.some.inj h
          exact ee sch_lawRemoved [6] [] (p.b 105 c2)
        · obtain ⟨g1, h⟩ := guardSome h
          exact gg sch_lawRemoved [0] (p.b 105 c2 |>.w 107 g1) (hself _ _ h m0 hm0)
    · obtain ⟨y1, hy1, h⟩ := bindSome h
      obtain rfl := Option.some.inj h
      exact ee sch_lawRemoved [6] [] (H0.b 55 c0 |>.c (fb (same_ok hy1) [some (.cells (probC q))]))
theorem lawRemoved_ok {n : Nat} {q : ProbD} {i : Int} {pos : List Int} {r : Bool} (h : lawRemoved n q i pos = some r) : ES Tryd.prog GG 5 [.agg 5 (L1 (probC q)), .i i, .ints pos] [] (.bool r) [] true := by
  refine ot Tryd.func5 fun B N => ?_
  have hself := lawRemoved_all B N q i pos n
  unfold lawRemoved at h
  unfold lawRemoved_l0 at h
  obtain ⟨y1, hy1, h⟩ := bindSome h
  have p := H0.c (fb (sane_ok hy1) [some (.cells (probC q))])
  rcases bifSome h with ⟨c0, h⟩ | ⟨c0, h⟩
  · obtain rfl := Option.some.inj h
    exact ee sch_lawRemoved [6] [] (p.b 17 c0)
  · obtain ⟨y2, hy2, h⟩ := bindSome h
    have p := p.b 17 c0 |>.c (fb (few_ok hy2) [some (.cells (probC q))])
    rcases bifSome h with ⟨c1, h⟩ | ⟨c1, h⟩
    · obtain rfl := Option.some.inj h
      exact ee sch_lawRemoved [6] [] (p.b 21 c1)
    · obtain ⟨y3, hy3, h⟩ := bindSome h
      obtain ⟨y4, hy4, h⟩ := bindSome h
      have p := p.b 21 c1 |>.c (fb (pruneP_ok hy3) [some (.cells (probC q))]) |>.c (fb (lostP_ok hy4) [some (.cells (probC q))])
      rcases bifSome h with ⟨c2, h⟩ | ⟨c2, h⟩
      · obtain rfl := Option.some.inj h
        exact ee sch_lawRemoved [6] [] (p.b 38 c2)
      · have p := p.b 38 c2
        rcases bifSome h with ⟨c3, h⟩ | ⟨c3, h⟩
        · have p := p.b 40 c3
          rcases bifSome h with ⟨c4, h⟩ | ⟨c4, h⟩
          · cases h
            exact ee sch_lawRemoved [6] [] (p.b 43 c4)
          · obtain rfl := Option.some.inj h
            exact ee sch_lawRemoved [6] [] (p.b 43 c4)
        · obtain ⟨g0, h⟩ := guardSome h
          exact gg sch_lawRemoved [0, 2] (p.b 40 c3 |>.g g0) (en n (hself _ _ h n (Nat.le_refl _)))
end Go.Proofs.YtekkngkphejfcaaDoor
namespace Go.Proofs.YtekkngkphejfcaaDoor
open Go.RowKit
theorem same_eq {a b : List Int} {n : Nat} (hl : a.length ≤ LB) (hn : a.length < n) : same n a b = some (decide (a = b)) := by
  have hb : LB ≤ 9223372036854775806 := by decide
  unfold same same_l0
  by_cases hlen : a.length = b.length
  · have e : ((a.length : Int) != (b.length : Int)) = false := by rw [hlen]; simp
    rw [e, cond_false]
    have key : ∀ (k i n : Nat), i + k = a.length → k + 1 ≤ n → same_m a b n (.l1 (i : Int)) = some (decide (a.drop i = b.drop i)) := by
      intro k
      induction k with
      | zero =>
        intro i n e hn
        obtain ⟨n, rfl⟩ : ∃ k, n = k + 1 := ⟨n - 1, by omega⟩
        show same_l1 n (same_m a b n) a b (i : Int) = _
        unfold same_l1
        rw [decide_eq_false (by omega), cond_false, List.drop_eq_nil_of_le (by omega), List.drop_eq_nil_of_le (by omega)]; rfl
      | succ k ih =>
        intro i n e hn
        obtain ⟨n, rfl⟩ : ∃ k, n = k + 1 := ⟨n - 1, by omega⟩
        have hi : i < a.length := by omega
        have hi' : i < b.length := by omega
        have d : ∀ {l : List Int}, i < l.length → l.drop i = l.getD i 0 :: l.drop (i + 1) := fun {l} h => by
          rw [List.drop_eq_getElem_cons h, List.getD_eq_getElem?_getD, List.getElem?_eq_getElem h]; rfl
        have := ih (i + 1) n (by omega) (by omega)
        show same_l1 n (same_m a b n) a b (i : Int) = _
        unfold same_l1
        rw [decide_eq_true (by omega), cond_true, if_pos ⟨⟨by omega, by omega⟩, by omega, by omega⟩, Int.toNat_natCast, if_pos (R64_iff.2 ⟨by omega, by omega⟩), d hi, d hi']
        by_cases h : a.getD i 0 = b.getD i 0
        · have : (a.getD i 0 != b.getD i 0) = false := by rw [h]; simp
          rw [this, cond_false]
          refine Eq.trans (by assumption) ?_
          rw [h]; simp
        · have : (a.getD i 0 != b.getD i 0) = true := by simpa using h
          rw [this, cond_true, decide_eq_false fun e => h (List.cons.inj e).1]
    exact key a.length 0 n (by omega) (by omega)
  · have e : ((a.length : Int) != (b.length : Int)) = true := by simp; omega
    rw [e, cond_true, decide_eq_false fun h => hlen (by rw [h])]
theorem symsI_sorted (x : Int) : (symsI x).Pairwise (· < ·) := by
  unfold symsI symsOf
  rw [List.pairwise_map]
  exact (List.pairwise_lt_range.filter _).imp fun h => by omega
theorem symsI_len (x : Int) : (symsI x).length ≤ 64 := by
  unfold symsI symsOf
  rw [List.length_map]
  exact Nat.le_trans (List.length_filter_le _ _) (by rw [List.length_range]; exact Nat.le_refl _)
/-- The lost pairs of a cell. -/
def lostRow (pos x : List Int) (c : Nat) : List (Int × Int) := (symsI (bits .andNot .i64 (pos.getD c 0) (x.getD c 0))).map fun s => ((c : Int), s)
def lostL (pos x : List Int) (m : Nat) : List (Int × Int) := (List.range m).flatMap (lostRow pos x)
theorem lostL_succ {pos x : List Int} {m : Nat} : lostL pos x (m + 1) = lostL pos x m ++ lostRow pos x m := by
  unfold lostL
  rw [List.range_succ, List.flatMap_append, List.flatMap_singleton]
theorem lostL_len {pos x : List Int} : ∀ m : Nat, (lostL pos x m).length ≤ 64 * m
  | 0 => Nat.le_refl _
  | m + 1 => by
    have h1 := lostL_len (pos := pos) (x := x) m
    have h2 := symsI_len (bits .andNot .i64 (pos.getD m 0) (x.getD m 0))
    rw [lostL_succ, List.length_append, lostRow, List.length_map]
    omega
def lexlt (a b : Int × Int) : Prop := a.1 < b.1 ∨ (a.1 = b.1 ∧ a.2 < b.2)
theorem lostL_sorted {pos x : List Int} {m : Nat} : (lostL pos x m).Pairwise lexlt := by
  unfold lostL
  rw [List.pairwise_flatMap]
  refine ⟨fun c _ => ?_, ?_⟩
  · unfold lostRow
    rw [List.pairwise_map]
    exact (symsI_sorted _).imp fun h => .inr ⟨rfl, h⟩
  · refine List.pairwise_lt_range.imp fun {a b} h u hu v hv => ?_
    unfold lostRow at hu hv
    obtain ⟨s, _, rfl⟩ := List.mem_map.1 hu
    obtain ⟨t, _, rfl⟩ := List.mem_map.1 hv
    exact .inl (by show (a : Int) < (b : Int); omega)
section
variable {q : ProbD} {i : Int} {pos x : List Int}
theorem lost_fold0 {n : Nat} {x25 : Int} : ∀ (l : List Int) (o : List (Int × Int)), o.length + l.length ≤ LIM → foldO (lostP_b37_1 n pos x x25) l (.s0 o.length o) = some (.s0 (o ++ l.map fun s => (x25, s)).length (o ++ l.map fun s => (x25, s)))
  | [], o, _ => by rw [List.map_nil, List.append_nil]; rfl
  | a :: l, o, h => by
    rw [List.length_cons] at h
    have e1 : lostP_b37_1 n pos x x25 a (.s0 o.length o) = some (.s0 (o ++ [(x25, a)]).length (o ++ [(x25, a)])) := by
      unfold lostP_b37_1 lostP_b37_1_l0 lostP_b37_1_e0
      dsimp only
      rw [if_pos ⟨rfl, by rw [List.length_singleton]; omega⟩, List.length_append]
    have := lost_fold0 (n := n) (x25 := x25) l (o ++ [(x25, a)]) (by rw [List.length_append, List.length_singleton]; omega)
    show (lostP_b37_1 n pos x x25 a (.s0 o.length o)).bind (foldO (lostP_b37_1 n pos x x25) l) = _
    rw [e1, Option.bind_some, this, List.map_cons, List.append_assoc]; rfl
theorem lost_fold1 {n : Nat} {x25 y : Int} : ∀ (l : List Int) (o : List (Int × Int)), o.length + l.length ≤ LIM → foldO (lostP_b37 n pos x y) l (.s1 o.length x25 o) = some (.s1 (o ++ l.map fun s => (x25, s)).length x25 (o ++ l.map fun s => (x25, s)))
  | [], o, _ => by rw [List.map_nil, List.append_nil]; rfl
  | a :: l, o, h => by
    rw [List.length_cons] at h
    have e1 : lostP_b37 n pos x y a (.s1 o.length x25 o) = some (.s1 (o ++ [(x25, a)]).length x25 (o ++ [(x25, a)])) := by
      unfold lostP_b37 lostP_b37_l0 lostP_b37_e1
      dsimp only
      rw [if_pos ⟨rfl, by rw [List.length_singleton]; omega⟩, List.length_append]
    have := lost_fold1 (n := n) (x25 := x25) (y := y) l (o ++ [(x25, a)]) (by rw [List.length_append, List.length_singleton]; omega)
    show (lostP_b37 n pos x y a (.s1 o.length x25 o)).bind (foldO (lostP_b37 n pos x y) l) = _
    rw [e1, Option.bind_some, this, List.map_cons, List.append_assoc]; rfl
/-- The state while pairs are gathered. -/
def stL (x : List Int) (o : List (Int × Int)) (k : Int) : lostPPt := match o with
  | [] => .l1 x k
  | a :: l => .l2 x k (a :: l).length (a :: l)
theorem stL_ne {o : List (Int × Int)} {k : Int} (h : o ≠ []) : stL x o k = .l2 x k o.length o := by
  cases o with
  | nil => exact absurd rfl h
  | cons a l => rfl
theorem lost_step {n k : Nat} {o : List (Int × Int)} (hx : x.length = pos.length) (h256 : pos.length ≤ 256) (hk : k < pos.length) (ho : o.length ≤ 64 * k) (hb : 0 ≤ bits .andNot .i64 (pos.getD k 0) (x.getD k 0)) :
    lostP_m q i pos (n + 1) (stL x o k) = lostP_m q i pos n (stL x (o ++ lostRow pos x k) ((k : Int) + 1)) := by
  have L : (1000000000000 : Nat) = LIM := rfl
  have hin := bits_in .andNot (pos.getD k 0) (x.getD k 0)
  have hs := symsI_len (bits .andNot .i64 (pos.getD k 0) (x.getD k 0))
  have r1 : R64 ((k : Int) + 1) := R64_iff.2 ⟨by omega, by omega⟩
  have hb2 : bits .andNot .i64 (pos.getD k 0) (x.getD k 0) < 9223372036854775808 := by have := hin.2; omega
  cases o with
  | nil =>
    show lostP_l1 n (lostP_m q i pos n) q i pos x (k : Int) = _
    unfold lostP_l1
    simp only [Int.toNat_natCast]
    rw [decide_eq_true (by omega), cond_true, if_pos ⟨⟨by omega, by omega⟩, ⟨by omega, by omega⟩, hb, hb2⟩]
    unfold lostRow
    cases hl : symsI (bits .andNot .i64 (pos.getD k 0) (x.getD k 0)) with
    | nil =>
      show (if R64 ((k : Int) + 1) then _ else none) = _
      rw [if_pos r1]; rfl
    | cons a l =>
      rw [hl, List.length_cons] at hs
      have e1 : lostP_b37 n pos x k a .s0 = some (.s1 [((k : Int), a)].length k [((k : Int), a)]) := rfl
      have e2 := lost_fold1 (n := n) (pos := pos) (x := x) (x25 := (k : Int)) (y := (k : Int)) l [((k : Int), a)] (by rw [List.length_singleton, ← L]; omega)
      show ((lostP_b37 n pos x k a .s0).bind (foldO (lostP_b37 n pos x k) l)).bind _ = _
      rw [e1, Option.bind_some, e2, Option.bind_some]
      dsimp only
      rw [if_pos r1]; rfl
  | cons a l =>
    rw [stL_ne (by simp : (a :: l) ++ lostRow pos x k ≠ [])]
    have e2 := lost_fold0 (n := n) (pos := pos) (x := x) (x25 := (k : Int)) (symsI (bits .andNot .i64 (pos.getD k 0) (x.getD k 0))) (a :: l) (by rw [← L]; omega)
    show lostP_l2 n (lostP_m q i pos n) q i pos x (k : Int) (a :: l).length (a :: l) = _
    unfold lostP_l2
    simp only [Int.toNat_natCast]
    rw [decide_eq_true (by omega), cond_true, if_pos ⟨⟨by omega, by omega⟩, ⟨by omega, by omega⟩, hb, hb2⟩, e2, Option.bind_some]
    dsimp only
    rw [if_pos r1]; rfl
theorem lost_all (hx : x.length = pos.length) (h256 : pos.length ≤ 256) (hb : ∀ k, k < pos.length → 0 ≤ bits .andNot .i64 (pos.getD k 0) (x.getD k 0)) : ∀ (m k n : Nat), k + m = pos.length → m + 1 ≤ n → lostP_m q i pos n (stL x (lostL pos x k) k) = some (lostL pos x pos.length, 0)
  | 0, k, n, e, hn => by
    have e : k = pos.length := by omega
    subst e
    obtain ⟨n, rfl⟩ : ∃ j, n = j + 1 := ⟨n - 1, by omega⟩
    cases h : lostL pos x pos.length with
    | nil =>
      show lostP_l1 n (lostP_m q i pos n) q i pos x (pos.length : Int) = _
      unfold lostP_l1
      rw [decide_eq_false (by omega), cond_false]
    | cons a l =>
      show lostP_l2 n (lostP_m q i pos n) q i pos x (pos.length : Int) (a :: l).length (a :: l) = _
      unfold lostP_l2
      rw [decide_eq_false (by omega), cond_false, if_pos rfl]
  | m + 1, k, n, e, hn => by
    obtain ⟨n, rfl⟩ : ∃ j, n = j + 1 := ⟨n - 1, by omega⟩
    rw [lost_step hx h256 (by omega) (lostL_len k) (hb k (by omega)), ← lostL_succ]
    exact lost_all hx h256 hb m (k + 1) n (by omega) (by omega)
theorem PR.sub {c : ConsD} (h : PR q c pos x) {j s : Nat} (hs : tb (x.getD j 0) s = true) : j < pos.length ∧ tb (pos.getD j 0) s = true := by
  have hj : j < pos.length := by
    refine Nat.lt_of_not_le fun hle => ?_
    rw [List.getD_eq_getElem?_getD, List.getElem?_eq_none (by have := h.len; omega)] at hs
    exact tb0 hs
  refine ⟨hj, ?_⟩
  by_cases hA : Alive q c pos
  · exact (((h.live hA j hj).2 s).1 hs).1
  · rw [h.dead hA, zat] at hs; exact absurd hs tb0
theorem PR.in64 {c : ConsD} (h : PR q c pos x) (j : Nat) : In64 (x.getD j 0) := by
  by_cases hA : Alive q c pos
  · by_cases hj : j < pos.length
    · exact (h.live hA j hj).1
    · rw [List.getD_eq_getElem?_getD, List.getElem?_eq_none (by have := h.len; omega)]; exact ⟨by decide, by decide⟩
  · rw [h.dead hA]; exact zin j
theorem lost_ev (C : Ctx q i pos) (hx : Ev (fun n => prunedP n q i pos) x) (hP : PR q (con q i) pos x) : Ev (fun n => lostP n q i pos) (lostL pos x pos.length, 0) := by
  have h256 := C.len256
  have hE : Ev (fun n => checkP n q i pos) 0 := ⟨szP q + pos.length + 1, fun n hn => by show checkP n q i pos = some 0; rw [checkP_eq C.fit (by omega) (Nat.le_trans h256.2 (by decide)) (by omega), C.check]⟩
  refine Ev.eq (Ev.bind hE (b := fun n y1 => bif (y1 != 0) then some (([] : List (Int × Int)), y1) else (prunedP n q i pos).bind fun y2 => lostP_m q i pos n (.l1 y2 0)) ?_) fun n => rfl
  refine Ev.bind hx (b := fun n y2 => lostP_m q i pos n (.l1 y2 0)) ⟨pos.length + 1, fun n hn => ?_⟩
  refine lost_all hP.len h256.2 (fun k hk => ?_) pos.length 0 n (by omega) (by omega)
  refine (sm_of (k := 16) (by decide) (bits_in _ _ _) fun s h1 h2 => ?_).1
  rw [tb_andNot, (C.sm k hk).hi (by have := C.work.k; omega)]; rfl
theorem mem_lostL (C : Ctx q i pos) {c : ConsD} (hP : PR q c pos x) {p : Int × Int} : p ∈ lostL pos x pos.length ↔ ∃ j s : Nat, p = ((j : Int), (s : Int)) ∧ j < pos.length ∧ s < q.symbols.toNat ∧ tb (pos.getD j 0) s = true ∧ tb (x.getD j 0) s = false := by
  have k16 := C.work.k
  unfold lostL lostRow
  simp only [List.mem_flatMap, List.mem_range, List.mem_map]
  have sm : ∀ j, j < pos.length → Sm q.symbols.toNat (bits .andNot .i64 (pos.getD j 0) (x.getD j 0)) := fun j hj => by
    refine sm_of (Nat.le_trans k16 (by decide)) (bits_in _ _ _) fun s h1 h2 => ?_
    rw [tb_andNot, (C.sm j hj).hi h1]; rfl
  constructor
  · rintro ⟨j, hj, e, he, rfl⟩
    obtain ⟨s, rfl, h1, h2⟩ := (mem_symsI (sm j hj) (Nat.le_trans k16 (by decide))).1 he
    rw [tb_andNot, Bool.and_eq_true, Bool.not_eq_true'] at h2
    exact ⟨j, s, rfl, hj, h1, h2.1, h2.2⟩
  · rintro ⟨j, s, rfl, hj, h1, h2, h3⟩
    exact ⟨j, hj, (s : Int), (mem_symsI (sm j hj) (Nat.le_trans k16 (by decide))).2 ⟨s, rfl, h1, by rw [tb_andNot, h2, h3]; rfl⟩, rfl⟩
theorem posOk_iff (hv : validB q = true) {y : List Int} : posOk q y = true ↔ (y.length : Int) = q.cells ∧ ∀ j, j < y.length → Sm q.symbols.toNat (y.getD j 0) := by
  unfold posOk
  rw [Bool.and_eq_true, beq_iff_eq, List.all_eq_true]
  constructor
  · rintro ⟨h1, h2⟩
    refine ⟨h1, fun j hj => ?_⟩
    have hm : y.getD j 0 ∈ y := by rw [List.getD_eq_getElem?_getD, List.getElem?_eq_getElem hj]; exact List.getElem_mem hj
    have := h2 _ hm
    rw [Bool.and_eq_true, decide_eq_true_iff, decide_eq_true_iff] at this
    exact this
  · rintro ⟨h1, h2⟩
    refine ⟨h1, fun z hz => ?_⟩
    obtain ⟨j, hj, rfl⟩ := List.getElem_of_mem hz
    have := h2 j hj
    rw [List.getD_eq_getElem?_getD, List.getElem?_eq_getElem hj] at this
    rw [Bool.and_eq_true, decide_eq_true_iff, decide_eq_true_iff]
    exact this
theorem ofInt_wrapU (x : Int) : BitVec.ofInt 64 (IntKind.u64.wrap x) = BitVec.ofInt 64 x := by
  apply BitVec.eq_of_toNat_eq
  rw [BitVec.toNat_ofInt, BitVec.toNat_ofInt, IntKind.wrap_u64]
  congr 1
  omega
theorem tb_without (a : Int) {s : Nat} (hs : s < 64) (t : Nat) : tb (IntKind.i64.wrap (bits .andNot .u64 (IntKind.u64.wrap a) (IntKind.u64.wrap (1 * 2 ^ s)))) t = (tb a t && !decide (s = t)) := by
  rw [tb_wrap]
  have e : tb (bits .andNot .u64 (IntKind.u64.wrap a) (IntKind.u64.wrap (1 * 2 ^ s))) t = (BitVec.ofInt 64 (IntKind.u64.wrap a) &&& ~~~ BitVec.ofInt 64 (IntKind.u64.wrap (1 * 2 ^ s))).getLsbD t := by
    show (BitVec.ofInt 64 (IntKind.u64.wrap ((BitVec.ofInt 64 (IntKind.u64.wrap a) &&& ~~~ BitVec.ofInt 64 (IntKind.u64.wrap (1 * 2 ^ s))).toNat : Int))).getLsbD t = _
    rw [ofInt_wrapU, ofInt_toNat]
  rw [e, ofInt_wrapU, ofInt_wrapU, BitVec.getLsbD_and, BitVec.getLsbD_not]
  rcases Nat.lt_or_ge t 64 with h | h
  · have h2 := tb_shl hs t
    rw [tb_wrap] at h2
    have h2 : (BitVec.ofInt 64 (1 * 2 ^ s)).getLsbD t = decide (s = t) := h2
    rw [h2, decide_eq_true h, Bool.true_and]; rfl
  · have h2 := tb_ge (x := a) h
    have h3 : (BitVec.ofInt 64 a).getLsbD t = tb a t := rfl
    rw [h3, h2]; rfl
/-- A symbol is taken from a cell; a dead position is all empty. -/
theorem remove_eq (hF : Fit q) (hv : validB q = true) {y : List Int} (hy : posOk q y = true) {j s : Nat} (hj : j < y.length) (hs : s < q.symbols.toNat) :
    ∃ z : List Int, z.length = y.length ∧ (∀ l, l < y.length → In64 (z.getD l 0) ∧ ∀ t, tb (z.getD l 0) t = (tb (y.getD l 0) t && !(decide (l = j) && decide (t = s)))) ∧ ∀ n, szP q + 300 ≤ n → removeP n q y j s = some (if deadB z then List.replicate y.length 0 else z, 0) := by
  obtain ⟨h1, h2⟩ := (posOk_iff hv).1 hy
  obtain ⟨hc, hsy, _⟩ := validB_parts hv
  have L : (1000000000000 : Nat) = LIM := rfl
  have lb : (256 : Nat) ≤ LB := by decide
  have sy : ((q.symbols.toNat : Nat) : Int) = q.symbols := by omega
  refine ⟨y.set j (IntKind.i64.wrap (bits .andNot .u64 (IntKind.u64.wrap (y.getD j 0)) (IntKind.u64.wrap (1 * 2 ^ s)))), List.length_set, fun l hl => ?_, fun n hn => ?_⟩
  · by_cases e : j = l
    · subst e
      rw [getD_set_self hj]
      refine ⟨wrap_in _, fun t => ?_⟩
      rw [tb_without _ (by omega), decide_eq_true rfl, Bool.true_and]
      congr 2
      rw [decide_eq_decide]
      exact eq_comm
    · rw [getD_set_ne e]
      refine ⟨(h2 l hl).in64 (by omega), fun t => ?_⟩
      rw [decide_eq_false fun h => e h.symm, Bool.false_and]; simp
  · have hpc : pcheck n q y = some 0 := by
      rw [pcheck_eq hF (by omega) (by omega) (by omega)]
      unfold pcheckV
      rw [if_pos hv, if_pos hy]
    unfold removeP removeP_l0 changeWithout changeWithout_l0
    rw [hpc, Option.bind_some]
    simp only [List.nil_append, Nat.zero_add, Int.toNat_natCast, List.length_nil]
    rw [decide_eq_false (by omega), decide_eq_false (by omega), decide_eq_false (by omega), decide_eq_false (by omega)]
    simp only [bne_self_eq_false, cond_false]
    rw [if_pos ⟨⟨trivial, ⟨trivial, trivial⟩, by rw [← L]; omega⟩, ⟨by omega, by omega⟩, hj⟩]
    have hw : withoutP n (IntKind.u64.wrap (y.getD j 0)) s = some (bits .andNot .u64 (IntKind.u64.wrap (y.getD j 0)) (IntKind.u64.wrap (1 * 2 ^ s))) := by
      unfold withoutP withoutP_l0
      rw [if_pos ⟨by omega, by show (s : Int) ≤ ((64 : Nat) : Int); omega⟩, Int.toNat_natCast]
    rw [hw, Option.bind_some, if_pos (by rw [List.length_set])]
    generalize hz : y.set j (IntKind.i64.wrap (bits .andNot .u64 (IntKind.u64.wrap (y.getD j 0)) (IntKind.u64.wrap (1 * 2 ^ s)))) = z
    have hzl : z.length = y.length := by rw [← hz, List.length_set]
    have hn : normalP n z = some (if deadB z then List.replicate y.length 0 else z) := by
      unfold normalP normalP_l0
      rw [deadP_eq (by omega) (by omega), Option.bind_some]
      cases deadB z
      · rfl
      · rw [cond_true, if_pos ⟨rfl, by omega, by omega⟩, if_pos (by simp), hzl]; rfl
    rw [hn]; rfl
/-- On the way: what remains after some pairs. -/
structure Rem (pos x y : List Int) (P : List (Int × Int)) : Prop where
  len : y.length = pos.length
  st : (∀ j, j < pos.length → In64 (y.getD j 0) ∧ ∀ t : Nat, tb (y.getD j 0) t = true ↔ tb (pos.getD j 0) t = true ∧ ((j : Int), (t : Int)) ∉ P) ∨ (y = List.replicate pos.length 0 ∧ x = List.replicate pos.length 0)
theorem Rem.ok (C : Ctx q i pos) {y : List Int} {P : List (Int × Int)} (h : Rem pos x y P) : posOk q y = true := by
  refine (posOk_iff C.valid).2 ⟨by rw [h.len]; exact C.len, fun j hj => ?_⟩
  have hk := C.work.k
  rcases h.st with h1 | ⟨rfl, _⟩
  · have hj : j < pos.length := by rw [← h.len]; exact hj
    refine sm_of (by omega) (h1 j hj).1 fun s hs _ => ?_
    cases ht : tb (y.getD j 0) s with
    | false => rfl
    | true =>
      have := (((h1 j hj).2 s).1 ht).1
      rw [(C.sm j hj).hi hs] at this; cases this
  · rw [zat]; exact ⟨Int.le_refl _, Int.pow_pos (by decide)⟩
theorem remove_go (C : Ctx q i pos) (hP : PR q (con q i) pos x) {y : List Int} {P : List (Int × Int)} (h : Rem pos x y P) {p : Int × Int} (hp : p ∈ lostL pos x pos.length) (hsub : ∀ p ∈ P, p ∈ lostL pos x pos.length) :
    ∃ y', (∀ n, szP q + 300 ≤ n → removeP n q y p.1 p.2 = some (y', 0)) ∧ Rem pos x y' (P ++ [p]) := by
  obtain ⟨j, s, rfl, hj, hs, h1, h2⟩ := (mem_lostL C hP).1 hp
  have h256 := C.len256
  have hyl := h.len
  obtain ⟨z, hz1, hz2, hz3⟩ := remove_eq C.fit C.valid (h.ok C) (j := j) (s := s) (by omega) hs
  refine ⟨_, hz3, ?_, ?_⟩
  · split
    · simp only [List.length_replicate]; exact hyl
    · rw [hz1]; exact hyl
  · rcases h.st with h3 | ⟨rfl, h4⟩
    · have zb : ∀ l, l < pos.length → In64 (z.getD l 0) ∧ ∀ t : Nat, tb (z.getD l 0) t = true ↔ tb (pos.getD l 0) t = true ∧ ((l : Int), (t : Int)) ∉ P ++ [((j : Int), (s : Int))] := fun l hl => by
        refine ⟨(hz2 l (by omega)).1, fun t => ?_⟩
        rw [(hz2 l (by omega)).2, Bool.and_eq_true, (h3 l hl).2, Bool.not_eq_true', List.mem_append, List.mem_singleton]
        constructor
        · rintro ⟨⟨h5, h6⟩, h7⟩
          refine ⟨h5, fun h8 => h8.elim h6 fun h8 => ?_⟩
          have e1 := congrArg Prod.fst h8
          have e2 := congrArg Prod.snd h8
          simp only at e1 e2
          rw [decide_eq_true (show l = j by omega), decide_eq_true (show t = s by omega)] at h7
          cases h7
        · rintro ⟨h5, h6⟩
          refine ⟨⟨h5, fun h7 => h6 (.inl h7)⟩, ?_⟩
          rw [Bool.and_eq_false_iff, decide_eq_false_iff_not, decide_eq_false_iff_not]
          refine Classical.byContradiction fun h7 => ?_
          rw [not_or, Classical.not_not, Classical.not_not] at h7
          exact h6 (.inr (by rw [h7.1, h7.2]))
      cases hd : deadB z
      · rw [if_neg (by decide)]
        exact .inl zb
      · rw [if_pos rfl, hyl]
        refine .inr ⟨rfl, ?_⟩
        refine Classical.byContradiction fun hne => ?_
        have hA : Alive q (con q i) pos := Classical.byContradiction fun hA => hne (hP.dead hA)
        have : deadB z = false := deadB_false.2 fun l hl => by
          have hl : l < pos.length := by omega
          obtain ⟨t, ht, h5, h6⟩ := hA.left l hl
          refine (tb_ne_zero (zb l hl).1).2 ⟨t, ht, ((zb l hl).2 t).2 ⟨h5, fun h7 => ?_⟩⟩
          have hx := ((hP.live hA l hl).2 t).2 ⟨h5, h6⟩
          have hm : ((l : Int), (t : Int)) ∈ lostL pos x pos.length := by
            rcases List.mem_append.1 h7 with h7 | h7
            · exact hsub _ h7
            · rw [List.mem_singleton.1 h7]; exact hp
          obtain ⟨l', t', e, _, _, _, h8⟩ := (mem_lostL C hP).1 hm
          have e1 := congrArg Prod.fst e
          have e2 := congrArg Prod.snd e
          simp only at e1 e2
          obtain rfl : l = l' := by omega
          obtain rfl : t = t' := by omega
          rw [hx] at h8; cases h8
        rw [hd] at this; cases this
    · have : deadB z = true := by
        cases hd : deadB z with
        | true => rfl
        | false =>
          have h5 := deadB_false.1 hd j (by omega)
          obtain ⟨t, _, ht⟩ := (tb_ne_zero (hz2 j (by omega)).1).1 h5
          rw [(hz2 j (by omega)).2, zat, tb_zero] at ht
          cases ht
      rw [this, if_pos rfl, hyl]
      exact .inr ⟨rfl, h4⟩
theorem Rem.done (C : Ctx q i pos) (hP : PR q (con q i) pos x) {y : List Int} (h : Rem pos x y (lostL pos x pos.length)) : x = y := by
  have hk := C.work.k
  rcases h.st with h1 | ⟨h2, h3⟩
  · have hl := h.len
    have hl2 := hP.len
    refine List.ext_getElem (by omega) fun j h3 h4 => ?_
    have e1 : x.getD j 0 = x[j] := by simp [h3]
    have e2 : y.getD j 0 = y[j] := by simp [h4]
    rw [← e1, ← e2]
    refine tb_ext (hP.in64 j) (h1 j (by omega)).1 fun s _ => ?_
    rw [Bool.eq_iff_iff, (h1 j (by omega)).2]
    constructor
    · intro h5
      refine ⟨(hP.sub h5).2, fun h6 => ?_⟩
      obtain ⟨j', s', e, _, _, _, h7⟩ := (mem_lostL C hP).1 h6
      have e3 := congrArg Prod.fst e
      have e4 := congrArg Prod.snd e
      simp only at e3 e4
      obtain rfl : j = j' := by omega
      obtain rfl : s = s' := by omega
      rw [h5] at h7; cases h7
    · rintro ⟨h5, h6⟩
      cases h7 : tb (x.getD j 0) s with
      | true => rfl
      | false =>
        refine absurd ((mem_lostL C hP).2 ⟨j, s, rfl, by omega, ?_, h5, h7⟩) h6
        refine Nat.lt_of_not_le fun hle => ?_
        rw [(C.sm j (by omega)).hi hle] at h5; cases h5
  · rw [h2, h3]
theorem removed_loop (C : Ctx q i pos) (hP : PR q (con q i) pos x) {L : List (Int × Int)} (hL : L = lostL pos x pos.length) : ∀ (m k : Nat) (y : List Int), k + m = L.length → 0 < k → Rem pos x y (L.take k) → Ev (fun n => lawRemoved_m q i pos n (.l2 x L y L (L.length : Int) (k : Int))) true := by
  have h256 := C.len256
  have lb : (256 : Nat) ≤ LB := by decide
  intro m
  induction m with
  | zero =>
    intro k y e hk h
    have e : k = L.length := by omega
    subst e
    rw [List.take_length, hL] at h
    have hxy := h.done C hP
    refine ⟨pos.length + 2, fun n hn => ?_⟩
    obtain ⟨n, rfl⟩ : ∃ j, n = j + 1 := ⟨n - 1, by omega⟩
    show lawRemoved_l2 n (lawRemoved_m q i pos n) q i pos x L y L (L.length : Int) (L.length : Int) = _
    unfold lawRemoved_l2
    rw [decide_eq_false (by omega), cond_false, same_eq (by rw [hP.len]; omega) (by rw [hP.len]; omega), decide_eq_true hxy]; rfl
  | succ m ih =>
    intro k y e hk h
    have hkL : k < L.length := by omega
    have hm : L[k] ∈ L := List.getElem_mem hkL
    obtain ⟨y', h1, h2⟩ := remove_go C hP h (p := L[k]) (by rw [← hL]; exact hm) fun p hp => by rw [← hL]; exact List.mem_of_mem_take hp
    rw [← List.take_succ_eq_append_getElem hkL] at h2
    obtain ⟨N, hN⟩ := ih (k + 1) y' (by omega) (by omega) h2
    have hlen : L.length ≤ 64 * 256 := by
      rw [hL]
      have := lostL_len (pos := pos) (x := x) pos.length
      omega
    refine ⟨N + szP q + 301, fun n hn => ?_⟩
    obtain ⟨n, rfl⟩ : ∃ j, n = j + 1 := ⟨n - 1, by omega⟩
    have e1 : L.getD k default = L[k] := by rw [List.getD_eq_getElem?_getD, List.getElem?_eq_getElem hkL]; rfl
    have e0 : L.getD (k - 1) default = L[k - 1]'(by omega) := by rw [List.getD_eq_getElem?_getD, List.getElem?_eq_getElem (by omega)]; rfl
    have hs : lexlt (L[k - 1]'(by omega)) L[k] := by
      have hp : L.Pairwise lexlt := by rw [hL]; exact lostL_sorted
      exact List.pairwise_iff_getElem.1 hp (k - 1) k (by omega) hkL (by omega)
    have t1 : ((k : Int) - 1).toNat = k - 1 := by omega
    have r1 : R64 ((k : Int) + 1) := R64_iff.2 ⟨by omega, by omega⟩
    have next : lawRemoved_m q i pos n (.l2 x L y' L (L.length : Int) ((k : Int) + 1)) = some true := hN n (by omega)
    have h1 := h1 n (by omega)
    show lawRemoved_l2 n (lawRemoved_m q i pos n) q i pos x L y L (L.length : Int) (k : Int) = _
    unfold lawRemoved_l2
    simp only [Int.toNat_natCast, t1, e1, e0]
    rw [decide_eq_true (by omega), cond_true, if_pos ⟨by omega, by omega⟩, decide_eq_true (by omega), cond_true, if_pos ⟨R64_iff.2 ⟨by omega, by omega⟩, by omega, by omega⟩, h1]
    simp only [Option.bind_some, bne_self_eq_false, cond_false, if_pos r1, next]
    rcases hs with hs | ⟨hs, hs2⟩
    · have b1 : ((L[k - 1]'(by omega)).1 == L[k].1) = false := beq_eq_false_iff_ne.2 (by omega)
      rw [decide_eq_false (by omega), cond_false, b1, cond_false]
    · have b1 : ((L[k - 1]'(by omega)).1 == L[k].1) = true := beq_iff_eq.2 hs
      rw [decide_eq_false (by omega), cond_false, b1, cond_true, decide_eq_false (by omega), cond_false]
theorem removed_start (C : Ctx q i pos) (hP : PR q (con q i) pos x) : Ev (fun n => lawRemoved_m q i pos n (.l1 x (lostL pos x pos.length) (lostL pos x pos.length) ((lostL pos x pos.length).length : Int))) true := by
  have h256 := C.len256
  have lb : (256 : Nat) ≤ LB := by decide
  have h0 : Rem pos x pos [] := ⟨rfl, .inl fun j hj => ⟨(C.sm j hj).in64 (by have := C.work.k; omega), fun t => by simp⟩⟩
  generalize hL : lostL pos x pos.length = L
  cases L with
  | nil =>
    rw [← hL] at h0
    have hxy := h0.done C hP
    refine ⟨pos.length + 2, fun n hn => ?_⟩
    obtain ⟨n, rfl⟩ : ∃ j, n = j + 1 := ⟨n - 1, by omega⟩
    show lawRemoved_l1 n (lawRemoved_m q i pos n) q i pos x [] [] (0 : Int) = _
    unfold lawRemoved_l1
    rw [decide_eq_false (by omega), cond_false, if_pos (by simp), List.nil_append, same_eq (by rw [hP.len]; omega) (by rw [hP.len]; omega), decide_eq_true hxy]; rfl
  | cons p L =>
    obtain ⟨y', h1, h2⟩ := remove_go C hP h0 (p := p) (by rw [hL]; exact List.mem_cons_self) fun p hp => absurd hp List.not_mem_nil
    obtain ⟨N, hN⟩ := removed_loop C hP hL.symm L.length 1 y' (by rw [List.length_cons]; omega) (by omega) h2
    refine ⟨N + szP q + 301, fun n hn => ?_⟩
    obtain ⟨n, rfl⟩ : ∃ j, n = j + 1 := ⟨n - 1, by omega⟩
    have h1 := h1 n (by omega)
    have next : lawRemoved_m q i pos n (.l2 x (p :: L) y' (p :: L) (((p :: L).length : Nat) : Int) 1) = some true := hN n (by omega)
    have e0 : (p :: L).getD 0 default = p := rfl
    show lawRemoved_l1 n (lawRemoved_m q i pos n) q i pos x (p :: L) (p :: L) (((p :: L).length : Nat) : Int) = _
    unfold lawRemoved_l1
    rw [decide_eq_true (by rw [List.length_cons]; omega), cond_true, if_pos ⟨by omega, by rw [List.length_cons]; omega⟩, if_pos (by simp), List.nil_append, e0, h1, Option.bind_some]
    simp only [bne_self_eq_false, cond_false]
    exact next
end
end Go.Proofs.YtekkngkphejfcaaDoor
namespace Go.Proofs.YtekkngkphejfcaaDoor
open Go.RowKit
theorem sane_ev : Ev sane true := ⟨200, fun n hn => by
  obtain ⟨k, rfl⟩ : ∃ k, n = k + 200 := ⟨n - 200, by omega⟩
  exact (show ∀ k, sane (k + 200) = some true from fun k => by kernel_rfl) k⟩
section
variable {q : ProbD} {i : Int} {pos : List Int}
/-- A law starts so: the examples hold; a problem that is not small is passed over. -/
theorem law_start {n : Nat → Option Bool} {f : Nat → Option Bool} (h : ∀ m, n m = (sane m).bind fun y1 => bif (!y1) then some false else (few m q pos).bind fun y2 => bif (!y2) then some true else f m) (hf : Ev f true) : Ev n true := by
  obtain ⟨N, hs⟩ := sane_ev
  obtain ⟨M, hf⟩ := hf
  refine ⟨N + M + q.cons.length + 1, fun m hm => ?_⟩
  obtain ⟨b, hb⟩ := few_some (q := q) (pos := pos) (n := m) (by omega)
  rw [h, hs m (by omega), Option.bind_some, hb, Option.bind_some, hf m (by omega)]
  cases b <;> rfl
theorem lawRemoved_true (q : ProbD) (i : Int) (pos : List Int) (hF : Fit q) (hl : pos.length ≤ LB) : Ev (fun n => lawRemoved n q i pos) true := by
  have L : (1000000000000 : Nat) = LIM := rfl
  have hE : Ev (fun n => checkP n q i pos) (checkV q i pos) := ⟨szP q + pos.length + 1, fun n hn => checkP_eq hF (by omega) hl (by omega)⟩
  refine law_start (q := q) (pos := pos) (f := fun n => (pruneP n q i pos).bind fun y3 => (lostP n q i pos).bind fun y4 => bif (y3.2 != y4.2) then some false else bif (y3.2 != 0) then (bif ((y3.1.length : Int) == 0) then some ((y4.1.length : Int) == 0) else some false) else (if (True) ∧ (0 = 0 ∧ 0 = ([] : List Int).length) ∧ ([] : List Int).length + pos.length ≤ LIM then lawRemoved_m q i pos n (.l1 y3.1 y4.1 y4.1 (y4.1.length : Int)) else none)) (fun n => rfl) ?_
  by_cases h0 : checkV q i pos = 0
  · have C := Ctx.of hF h0
    have h256 := C.len256
    obtain ⟨x, h1, h2⟩ := pruned_ev C
    have hp : Ev (fun n => pruneP n q i pos) (x, 0) := by
      refine Ev.eq (Ev.bind hE (b := fun n y1 => bif (y1 != 0) then some (([] : List Int), y1) else (prunedP n q i pos).bind fun y2 => some (y2, 0)) ?_) fun n => rfl
      rw [h0]
      exact Ev.bind h1 (b := fun _ y2 => some (y2, 0)) (Ev.now fun n => rfl)
    refine Ev.bind hp (b := fun n y3 => (lostP n q i pos).bind fun y4 => bif (y3.2 != y4.2) then some false else bif (y3.2 != 0) then (bif ((y3.1.length : Int) == 0) then some ((y4.1.length : Int) == 0) else some false) else (if (True) ∧ (0 = 0 ∧ 0 = ([] : List Int).length) ∧ ([] : List Int).length + pos.length ≤ LIM then lawRemoved_m q i pos n (.l1 y3.1 y4.1 y4.1 (y4.1.length : Int)) else none)) ?_
    refine Ev.bind (lost_ev C h1 h2) (b := fun n y4 => bif ((0 : Int) != y4.2) then some false else bif ((0 : Int) != 0) then (bif ((x.length : Int) == 0) then some ((y4.1.length : Int) == 0) else some false) else (if (True) ∧ (0 = 0 ∧ 0 = ([] : List Int).length) ∧ ([] : List Int).length + pos.length ≤ LIM then lawRemoved_m q i pos n (.l1 x y4.1 y4.1 (y4.1.length : Int)) else none)) ?_
    refine (removed_start C h2).eq fun n => ?_
    have e : ((0 : Int) != 0) = false := rfl
    show (bif ((0 : Int) != 0) then some false else bif ((0 : Int) != 0) then _ else _) = _
    rw [e, cond_false, cond_false, if_pos ⟨trivial, ⟨rfl, rfl⟩, by rw [← L]; simp only [List.length_nil]; omega⟩]
  · have hp : Ev (fun n => pruneP n q i pos) ([], checkV q i pos) := by
      refine Ev.eq (Ev.bind hE (b := fun n y1 => bif (y1 != 0) then some (([] : List Int), y1) else (prunedP n q i pos).bind fun y2 => some (y2, 0)) (Ev.now fun n => ?_)) fun n => rfl
      have : (checkV q i pos != 0) = true := by simpa using h0
      rw [this]; rfl
    have hlo : Ev (fun n => lostP n q i pos) ([], checkV q i pos) := by
      refine Ev.eq (Ev.bind hE (b := fun n y1 => bif (y1 != 0) then some (([] : List (Int × Int)), y1) else (prunedP n q i pos).bind fun y2 => lostP_m q i pos n (.l1 y2 0)) (Ev.now fun n => ?_)) fun n => rfl
      have : (checkV q i pos != 0) = true := by simpa using h0
      rw [this]; rfl
    refine Ev.bind hp (b := fun n y3 => (lostP n q i pos).bind fun y4 => bif (y3.2 != y4.2) then some false else bif (y3.2 != 0) then (bif ((y3.1.length : Int) == 0) then some ((y4.1.length : Int) == 0) else some false) else (if (True) ∧ (0 = 0 ∧ 0 = ([] : List Int).length) ∧ ([] : List Int).length + pos.length ≤ LIM then lawRemoved_m q i pos n (.l1 y3.1 y4.1 y4.1 (y4.1.length : Int)) else none)) ?_
    refine Ev.bind hlo (b := fun n y4 => bif (checkV q i pos != y4.2) then some false else bif (checkV q i pos != 0) then (bif (((([] : List Int).length : Nat) : Int) == 0) then some ((y4.1.length : Int) == 0) else some false) else (if (True) ∧ (0 = 0 ∧ 0 = ([] : List Int).length) ∧ ([] : List Int).length + pos.length ≤ LIM then lawRemoved_m q i pos n (.l1 [] y4.1 y4.1 (y4.1.length : Int)) else none)) (Ev.now fun n => ?_)
    have e1 : (checkV q i pos != checkV q i pos) = false := by simp
    have e2 : (checkV q i pos != 0) = true := by simpa using h0
    show (bif (checkV q i pos != checkV q i pos) then some false else bif (checkV q i pos != 0) then _ else _) = _
    rw [e1, e2]; rfl
end
end Go.Proofs.YtekkngkphejfcaaDoor
namespace Go.Proofs.YtekkngkphejfcaaDoor.pruneRemoved
open Go.ChangeShapes Go.WideShapes Go.ChangeAt Go.RowKit
set_option maxRecDepth 100000 in
theorem contract (H : Type) (enc : TypeId × Value → H) (W : World) (base : Nat) (args : Array Value) (ds gs : List (DataW H)) (before : List MemPlace)
    (hval : ∀ (j : Nat) t v, Tryd.f5.params[j]? = some t → args[j]? = some v → Value.okWide Tryd.prog W .any base t v)
    (hW : DataW.Whole enc Tryd.prog Tryd.f5.params.toList Rows.pruneRemovedSpec.vars false W args.toList ds gs before)
    (hsz : (DataW.weightsEach Tryd.prog Tryd.f5.params.toList ds).all (· ≤ reachBytes) = true) (hL : laidMetH Tryd.prog Rows.pruneRemovedRow.laid W) :
    Calls Tryd.prog 5 args W fun e W' => ∃ v, e = .returned v ∧ Rows.pruneRemovedSpec.post enc Tryd.prog Tryd.f5 false true false false W args v W' := by
  have hW' := hW
  obtain ⟨p, q, hA0, hV, rfl, hfz, hnd⟩ := hW
  have hA : DataW.TrodAll enc Tryd.prog W 0 (fun _ => true) true Tryd.f5.params.toList args.toList ds p := hA0
  rw [Tryd.params5] at hA
  obtain ⟨v0, vs0, d0, ds0, p0, q0, hargs, rfl, rfl, _, r0⟩ := trodAll_cons hA
  obtain ⟨v1, vs1, d1, ds1, p1, q1, rfl, rfl, rfl, _, r1⟩ := trodAll_cons r0
  obtain ⟨v2, vs2, d2, ds2, p2, q2, rfl, rfl, rfl, _, r2⟩ := trodAll_cons r1
  obtain ⟨rfl, rfl, rfl⟩ := trodAll_nil r2
  obtain ⟨rfl, rfl⟩ := trodVars_none hV
  refine law_calls (Γ := GG) (s := Rows.pruneRemovedSpec) (tb := 4) (dv := fun y : ProbD × Int × List Int × Unit => [.agg 5 (L1 (probC y.1)), .int .i64 y.2.1, .ints y.2.2.1]) laidOutP ?_ ?_ ?_ hval hW' rfl rfl (by kernel_rfl) Tryd.underlying4 hsz (table_gi hL)
  · rw [Tryd.params5]
    intro t ht
    simp only [Array.toList, List.mem_cons, List.not_mem_nil, or_false] at ht
    rcases ht with rfl | rfl | rfl
    · exact ⟨by kernel_rfl, Nat.le_of_ble_eq_true (by kernel_rfl)⟩
    · exact ⟨by kernel_rfl, Nat.le_of_ble_eq_true (by kernel_rfl)⟩
    · exact ⟨by kernel_rfl, Nat.le_of_ble_eq_true (by kernel_rfl)⟩
  · rw [Tryd.params5]
    exact ArgsV.cons rvProb (ArgsV.cons rvInt (ArgsV.cons rvInts ArgsV.nil))
  · intro w y hy
    obtain ⟨n, hn⟩ := lawRemoved_true y.1 y.2.1 y.2.2.1 (Fit.of (hy 0)) (ints_le (hy 2))
    exact lawRemoved_ok (hn n (Nat.le_refl _))
theorem laid_met (os : Os) : laidMet Tryd.prog Rows.pruneRemovedRow.laid ((laidWorld os).forCall (fun _ _ => 0) ⟨#[], #[prob0, .int .i64 0, .slice none 0 0], []⟩).memory :=
  laidMet_of_run' 70 (by kernel_rfl) (by kernel_rfl)
theorem reads (os : Os) {H : Type} (enc : TypeId × Value → H) : ∃ places, DataW.whole enc Tryd.prog ((laidWorld os).forCall (fun _ _ => 0) ⟨#[], #[prob0, .int .i64 0, .slice none 0 0], []⟩).memory Tryd.f5.params.toList Rows.pruneRemovedSpec.vars false #[prob0, Value.int .i64 0, Value.slice none 0 0].toList 16 = some ([.agg [.lit (.int .i64 0), .lit (.int .i64 0), .nil, .nil, .nil], .lit (.int .i64 0), .nil], [], places) :=
  ⟨[], by kernel_rfl⟩
set_option maxRecDepth 100000 in
theorem lifted (os : Os) (started : os.Started) (H : Type) (enc : TypeId × Value → H) (F : Stop.Interp) :
    ReturnsInHanded {} Tryd.checked os 5 .any ((OpenSpec.ofChange Rows.pruneRemovedSpec).preRow enc Tryd.prog Tryd.f5 Rows.pruneRemovedRow.domain false Rows.pruneRemovedRow.laid) (((OpenSpec.ofChange Rows.pruneRemovedSpec).at F).post enc Tryd.prog Tryd.f5 false true false false) := by
  obtain ⟨places, hx⟩ := reads os enc
  refine returnsInHanded_of_row (C := Tryd.checked) (s := OpenSpec.ofChange Rows.pruneRemovedSpec) own started (by kernel_rfl) Tryd.func5
    (witness_row_at (enc := enc) (C := Tryd.checked) false (laidWorld os) #[prob0, .int .i64 0, .slice none 0 0] rfl (by kernel_rfl) (by kernel_rfl) (by kernel_rfl)
      (OpenSpec.preRow_of_cond 16 hx (by kernel_rfl) (fun k hk => by cases hk) (by kernel_rfl) (laid_met os))) ?_
  intro W base args ds gs before hval hW _ _ hsz hL _ _
  refine contract H enc W base args ds gs before hval hW ?_ hL
  have h1 := hW
  obtain ⟨p, q, _, hV, _⟩ := h1
  obtain ⟨rfl, _⟩ := trodVars_none hV
  have e : (DataW.weightsEach Tryd.prog (Tryd.f5.params.toList ++ []) (ds ++ [])).all (· ≤ reachBytes) = true := hsz
  rw [List.append_nil, List.append_nil] at e
  exact e
theorem said : Rows.PruneRemovedSaid :=
  OpenClaim.holds_of_cond 5 Tryd.f5 rfl rfl rfl rfl rfl rfl rfl ⟨rfl, rfl, rfl, rfl, rfl⟩ rfl rfl rfl rfl rfl (by kernel_rfl) Tryd.func5 (by kernel_rfl)
    (of_decide_eq_true (by kernel_rfl)) (by unfold Func.isWrapper; first | (rw [if_pos (by decide +kernel)]; kernel_rfl) | (rw [if_neg (by decide +kernel)]; exact ⟨rfl, rfl⟩))
    (fun os started H enc _ F => by rw [OpenClaim.pre_eq_preRow]; exact lifted os started H enc F)
theorem plain (f : FuncId) (fn : Func) (hf : Tryd.pinned.checked.prog.funcNamed "gridwright/gridwrightlaw26.PruneRemoved" = some f) (hfn : Tryd.pinned.checked.prog.funcs[f]? = some fn) :
    false = Tryd.pinned.checked.prog.looks [] ∧ ∀ (j : Nat) t, fn.params[j]? = some t → Tryd.pinned.checked.prog.wantsStandIn t = false := by
  obtain rfl : f = 5 := Option.some.inj ((show Tryd.prog.funcNamed "gridwright/gridwrightlaw26.PruneRemoved" = some 5 by kernel_rfl).symm.trans hf) |>.symm
  obtain rfl : fn = Tryd.f5 := (Option.some.inj (Tryd.func5.symm.trans hfn)).symm
  refine ⟨by kernel_rfl, fun j t ht => ?_⟩
  rw [Tryd.params5] at ht
  have ht := Array.mem_of_getElem? ht
  simp only [Array.mem_def, Array.toList, List.mem_cons, List.not_mem_nil, or_false] at ht
  rcases ht with rfl | rfl | rfl
  · exact (show Tryd.prog.wantsStandIn 26 = false by kernel_rfl)
  · exact (show Tryd.prog.wantsStandIn 3 = false by kernel_rfl)
  · exact (show Tryd.prog.wantsStandIn 22 = false by kernel_rfl)
end Go.Proofs.YtekkngkphejfcaaDoor.pruneRemoved
namespace Go.Proofs.YtekkngkphejfcaaDoor
open Go.ChangeShapes Go.WideShapes Go.ChangeAt Go.RowKit
/-- The card. -/
theorem pruneRemoved_card : Rows.PruneRemovedCardSaid :=
  Claim7.holds_tied_plain_at .later [] _ _ _ _ pruneRemoved.said (fun _ h => by cases h) (by kernel_rfl) (fun _ h => by cases h) pruneRemoved_row_tie rfl ⟨rfl, rfl⟩ (by kernel_rfl) rfl pruneRemoved.plain (by kernel_rfl)
end Go.Proofs.YtekkngkphejfcaaDoor
