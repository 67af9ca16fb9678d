/- Part 4 of 6 of what the proofs of these laws stand on. -/
import Derived.Test.YtekkngkphejfcaaDoorPkC
import Derived.Laws.BitsLemmas
import Derived.Shelf.Sort.Plain
set_option linter.all false
namespace Go.Proofs.YtekkngkphejfcaaDoor
open Go.RowKit
set_option maxRecDepth 100000
set_option maxHeartbeats 40000000
theorem s_apartF_1 : SOk (regF Tryd.f65 1) [] (List.range 18) [] := by unfold SOk; kernel_rfl
def sch_apartF : Sch := fun i => match i with
  | 1 => .ord [] (List.range 18) []
  | _ => .no
def apartF_l0 (n : Nat) (s_ t_ : Int) (c : ConsD) (q : ProbD) (pos : List Int) (ln : Nat) (lost : List Int) : Option (Bool × (List Int)) :=
  if (0 ≤ s_ ∧ s_ < (q.values.length : Int)) ∧ (0 ≤ t_ ∧ t_ < (q.values.length : Int)) ∧ R64 ((q.values.getD ((s_).toNat) 0) - (q.values.getD ((t_).toNat) 0)) ∧ R64 (0 - ((q.values.getD ((s_).toNat) 0) - (q.values.getD ((t_).toNat) 0))) then
   some ((decide ((if (0 - ((q.values.getD ((s_).toNat) 0) - (q.values.getD ((t_).toNat) 0))) > ((q.values.getD ((s_).toNat) 0) - (q.values.getD ((t_).toNat) 0)) then (0 - ((q.values.getD ((s_).toNat) 0) - (q.values.getD ((t_).toNat) 0))) else ((q.values.getD ((s_).toNat) 0) - (q.values.getD ((t_).toNat) 0))) ≥ c.lo)), lost)
  else none
def apartF (n : Nat) (s_ t_ : Int) (c : ConsD) (q : ProbD) (pos : List Int) (ln : Nat) (lost : List Int) : Option (Bool × (List Int)) := apartF_l0 n s_ t_ c q pos ln lost
theorem apartF_ok {n : Nat} {s_ t_ : Int} {c : ConsD} {q : ProbD} {pos : List Int} {ln : Nat} {lost : List Int} {r : Bool × (List Int)} (h : apartF n s_ t_ c q pos ln lost = some r) : ES Tryd.prog GG 65 [.i s_, .i t_, .ref 0 0] [some (.cells [.ref 1 0]), some (.cells (consC c ++ probC q ++ [.ints pos, .msl 2 1 0 ln])), some (.ints lost)] (.bool r.1) [some (.cells [.ref 1 0]), some (.cells (consC c ++ probC q ++ [.ints pos, .msl 2 1 0 ln])), some (.ints r.2)] false := by
  refine ot Tryd.func65 fun B N => ?_
  unfold apartF at h
  unfold apartF_l0 at h
  obtain ⟨⟨g0, g1, g2, g3⟩, h⟩ := guardSome h
  cases h
  exact ee sch_apartF [5] [0, 1, 2] (H0.g s_apartF_1 |>.g g0 |>.g g1 |>.w 23 g2 |>.w 26 g3)
theorem s_notF_1 : SOk (regF Tryd.f66 1) [] (List.range 6) [] := by unfold SOk; kernel_rfl
def sch_notF : Sch := fun i => match i with
  | 1 => .ord [] (List.range 6) []
  | _ => .no
def notF_l0 (n : Nat) (s_ t_ : Int) (c : ConsD) (q : ProbD) (pos : List Int) (ln : Nat) (lost : List Int) : Option (Bool × (List Int)) :=
  if (0 ≤ s_ ∧ s_ ≤ (IntKind.i64.bits : Int)) ∧ (0 ≤ t_ ∧ t_ ≤ (IntKind.i64.bits : Int)) then
   bif ((bits .and .i64 (IntKind.i64.wrap (1 * 2 ^ (s_).toNat)) c.set) == 0) then
    bif ((bits .and .i64 (IntKind.i64.wrap (1 * 2 ^ (t_).toNat)) c.set) == 0) then
     some (true, lost)
    else
     some (((bits .and .i64 (IntKind.i64.wrap (1 * 2 ^ (s_).toNat)) c.other) == 0), lost)
   else
    bif ((bits .and .i64 (IntKind.i64.wrap (1 * 2 ^ (t_).toNat)) c.other) == 0) then
     bif ((bits .and .i64 (IntKind.i64.wrap (1 * 2 ^ (t_).toNat)) c.set) == 0) then
      some (true, lost)
     else
      some (((bits .and .i64 (IntKind.i64.wrap (1 * 2 ^ (s_).toNat)) c.other) == 0), lost)
    else
     some (false, lost)
  else none
def notF (n : Nat) (s_ t_ : Int) (c : ConsD) (q : ProbD) (pos : List Int) (ln : Nat) (lost : List Int) : Option (Bool × (List Int)) := notF_l0 n s_ t_ c q pos ln lost
theorem notF_ok {n : Nat} {s_ t_ : Int} {c : ConsD} {q : ProbD} {pos : List Int} {ln : Nat} {lost : List Int} {r : Bool × (List Int)} (h : notF n s_ t_ c q pos ln lost = some r) : ES Tryd.prog GG 66 [.i s_, .i t_, .ref 0 0] [some (.cells [.ref 1 0]), some (.cells (consC c ++ probC q ++ [.ints pos, .msl 2 1 0 ln])), some (.ints lost)] (.bool r.1) [some (.cells [.ref 1 0]), some (.cells (consC c ++ probC q ++ [.ints pos, .msl 2 1 0 ln])), some (.ints r.2)] false := by
  refine ot Tryd.func66 fun B N => ?_
  unfold notF at h
  unfold notF_l0 at h
  obtain ⟨⟨g0, g1⟩, h⟩ := guardSome h
  have p := H0.g s_notF_1 |>.g g0 |>.g g1
  rcases bifSome h with ⟨c0, h⟩ | ⟨c0, h⟩
  · have p := p.b 19 c0
    rcases bifSome h with ⟨c1, h⟩ | ⟨c1, h⟩
    · cases h
      exact ee sch_notF [5] [0, 1, 2] (p.b 38 c1)
    · cases h
      exact ee sch_notF [5] [0, 1, 2] (p.b 38 c1)
  · have p := p.b 19 c0
    rcases bifSome h with ⟨c1, h⟩ | ⟨c1, h⟩
    · have p := p.b 28 c1
      rcases bifSome h with ⟨c2, h⟩ | ⟨c2, h⟩
      · cases h
        exact ee sch_notF [5] [0, 1, 2] (p.b 38 c2)
      · cases h
        exact ee sch_notF [5] [0, 1, 2] (p.b 38 c2)
    · cases h
      exact ee sch_notF [5] [0, 1, 2] (p.b 28 c1)
theorem s_pairA_1 : SOk (regF Tryd.f64 1) [] (List.range 16) [] := by unfold SOk; kernel_rfl
theorem s_pairA_2 : SOk (regF Tryd.f64 2) [([0, 1, 2, 3, 4, 5, 6, 7, 8, 9, 10, 11, 12, 13], 14)] [15] [16] := by unfold SOk; kernel_rfl
theorem s_pairA_9 : SOk (regF Tryd.f64 9) [] [0, 1, 2, 3] [4] := by unfold SOk; kernel_rfl
theorem s_pairA_10 : SOk (regF Tryd.f64 10) [] [0, 1, 2, 3] [4] := by unfold SOk; kernel_rfl
def sch_pairA : Sch := fun i => match i with
  | 1 => .ord [] (List.range 16) []
  | 2 => .ord [([0, 1, 2, 3, 4, 5, 6, 7, 8, 9, 10, 11, 12, 13], 14)] [15] [16]
  | 9 => .ord [] [0, 1, 2, 3] [4]
  | 10 => .ord [] [0, 1, 2, 3] [4]
  | _ => .no
def hp_pairA_0 (c : ConsD) (q : ProbD) (pos : List Int) (ln : Nat) (lost : List Int) : DH := [some (.cells [.ref 1 0]), some (.cells (consC c ++ probC q ++ [.ints pos, .msl 2 1 0 ln])), some (.ints lost), some (.cells [.fn 65 1 (L1 [.ref 0 0])]), some (.cells [.i (pos.getD ((c.cells.getD 1 0).toNat) 0)]), some (.cells [.i 0]), some (.cells [.i 0])]
def hp_pairA_1 (c : ConsD) (q : ProbD) (pos : List Int) (ln : Nat) (lost : List Int) : DH := [some (.cells [.ref 1 0]), some (.cells (consC c ++ probC q ++ [.ints pos, .msl 2 1 0 ln])), some (.ints lost), some (.cells [.fn 65 1 (L1 [.ref 0 0])]), some (.cells [.i (pos.getD ((c.cells.getD 1 0).toNat) 0)]), some (.cells [.i 0]), some (.cells [.i 0]), some (.iter ((symsI (pos.getD ((c.cells.getD 0 0).toNat) 0)).map encI))]
def hp_pairA_2 (c : ConsD) (q : ProbD) (pos : List Int) (ln : Nat) (y1_0_0 : List Int) (y1_0_1 y1_0_2 : Int) : DH := [some (.cells [.ref 1 0]), some (.cells (consC c ++ probC q ++ [.ints pos, .msl 2 1 0 ln])), some (.ints y1_0_0), some (.cells [.fn 65 1 (L1 [.ref 0 0])]), some (.cells [.i (pos.getD ((c.cells.getD 1 0).toNat) 0)]), some (.cells [.i y1_0_1]), some (.cells [.i y1_0_2]), none]
def hp_pairA_3 (c : ConsD) (q : ProbD) (pos : List Int) (ln : Nat) (y2 : (List Int)) (y1_0_1 y1_0_2 : Int) : DH := [some (.cells [.ref 1 0]), some (.cells (consC c ++ probC q ++ [.ints pos, .msl 2 1 0 ln])), some (.ints y2), some (.cells [.fn 65 1 (L1 [.ref 0 0])]), some (.cells [.i (pos.getD ((c.cells.getD 1 0).toNat) 0)]), some (.cells [.i y1_0_1]), some (.cells [.i y1_0_2]), none]
def hp_pairA_4 (c : ConsD) (q : ProbD) (pos : List Int) (ln : Nat) (r42s0_2 : List Int) (r42s0_5_0 r42s0_6_0 e42 : Int) : DH := [some (.cells [.ref 1 0]), some (.cells (consC c ++ probC q ++ [.ints pos, .msl 2 1 0 ln])), some (.ints r42s0_2), some (.cells [.fn 65 1 (L1 [.ref 0 0])]), some (.cells [.i (pos.getD ((c.cells.getD 1 0).toNat) 0)]), some (.cells [.i r42s0_5_0]), some (.cells [.i r42s0_6_0]), none, some (.cells [.i e42])]
def hp_pairA_5 (c : ConsD) (q : ProbD) (pos : List Int) (ln : Nat) (r42s0_2 : List Int) (r42s0_5_0 r42s0_6_0 e42 : Int) : DH := [some (.cells [.ref 1 0]), some (.cells (consC c ++ probC q ++ [.ints pos, .msl 2 1 0 ln])), some (.ints r42s0_2), some (.cells [.fn 65 1 (L1 [.ref 0 0])]), some (.cells [.i (pos.getD ((c.cells.getD 1 0).toNat) 0)]), some (.cells [.i r42s0_5_0]), some (.cells [.i r42s0_6_0]), none, some (.cells [.i e42]), some (.iter ((symsI (pos.getD ((c.cells.getD 1 0).toNat) 0)).map encI))]
def hp_pairA_6 (c : ConsD) (q : ProbD) (pos : List Int) (ln : Nat) (r45s0_2 : List Int) (r45s0_5_0 r45s0_6_0 e42 : Int) : DH := [some (.cells [.ref 1 0]), some (.cells (consC c ++ probC q ++ [.ints pos, .msl 2 1 0 ln])), some (.ints r45s0_2), some (.cells [.fn 65 1 (L1 [.ref 0 0])]), some (.cells [.i (pos.getD ((c.cells.getD 1 0).toNat) 0)]), some (.cells [.i r45s0_5_0]), some (.cells [.i r45s0_6_0]), none, some (.cells [.i e42]), none]
inductive pairA_b42_b45T where
  | s0 (r45s0_2 : List Int) (r45s0_5_0 r45s0_6_0 : Int)
def pairA_b42_b45_H (c : ConsD) (q : ProbD) (pos : List Int) (ln : Nat) (e42 : Int) : pairA_b42_b45T → DH
  | .s0 r45s0_2 r45s0_5_0 r45s0_6_0 => [some (.cells [.ref 1 0]), some (.cells (consC c ++ probC q ++ [.ints pos, .msl 2 1 0 ln])), some (.ints r45s0_2), some (.cells [.fn 65 1 (L1 [.ref 0 0])]), some (.cells [.i (pos.getD ((c.cells.getD 1 0).toNat) 0)]), some (.cells [.i r45s0_5_0]), some (.cells [.i r45s0_6_0]), none, some (.cells [.i e42]), none]
def pairA_b42_b45_e0 (n : Nat) (c : ConsD) (q : ProbD) (pos : List Int) (ln : Nat) (e42 e45 : Int) (r45s0_2 : List Int) (r45s0_5_0 r45s0_6_0 : Int) : Option pairA_b42_b45T :=
  (apartF n e42 e45 c q pos ln r45s0_2).bind fun b45_y1 =>
   bif b45_y1.1 then
    if (0 ≤ e42 ∧ e42 ≤ (IntKind.i64.bits : Int)) ∧ (0 ≤ e45 ∧ e45 ≤ (IntKind.i64.bits : Int)) then
     some (.s0 b45_y1.2 (bits .or .i64 r45s0_5_0 (IntKind.i64.wrap (1 * 2 ^ (e42).toNat))) (bits .or .i64 r45s0_6_0 (IntKind.i64.wrap (1 * 2 ^ (e45).toNat))))
    else none
   else
    some (.s0 b45_y1.2 r45s0_5_0 r45s0_6_0)
def pairA_b42_b45_l0 (n : Nat) (c : ConsD) (q : ProbD) (pos : List Int) (ln : Nat) (e42 e45 : Int) : pairA_b42_b45T → Option pairA_b42_b45T
  | .s0 r45s0_2 r45s0_5_0 r45s0_6_0 => pairA_b42_b45_e0 n c q pos ln e42 e45 r45s0_2 r45s0_5_0 r45s0_6_0
def pairA_b42_b45 (n : Nat) (c : ConsD) (q : ProbD) (pos : List Int) (ln : Nat) (e42 e45 : Int) (s : pairA_b42_b45T) : Option pairA_b42_b45T := pairA_b42_b45_l0 n c q pos ln e42 e45 s
theorem pairA_b42_b45_ok (n : Nat) (c : ConsD) (q : ProbD) (pos : List Int) (ln : Nat) (e42 : Int) (l B : Nat) (N : Yard Tryd.prog GG 10) (e45 : Int) (s : pairA_b42_b45T) (r : pairA_b42_b45T) (h : pairA_b42_b45 n c q pos ln e42 e45 s = some r) : TrA Tryd.prog GG (Fence.wide.inRound l) (some B) 10 N (RndQ 10 [] 0 (pairA_b42_b45_H c q pos ln e42 r)) (rgA Tryd.f64 45) (rgB Tryd.f64 45) ⟨frm 69 [(3, .ref 3 0), (9, .ref 5 0), (10, .ref 6 0), (11, .ref 8 0), (45, .it 9), (46, .i e45)], pairA_b42_b45_H c q pos ln e42 s⟩ := by
  unfold pairA_b42_b45 at h
  cases s with
  | s0 r45s0_2 r45s0_5_0 r45s0_6_0 =>
    have h : pairA_b42_b45_e0 n c q pos ln e42 e45 r45s0_2 r45s0_5_0 r45s0_6_0 = some r := h
    unfold pairA_b42_b45_e0 at h
    refine ag sch_pairA [0, 1, 2, 3, 4, 5, 6, 7, 8, 9] H0 (frm 69 [(3, .ref 3 0), (9, .ref 5 0), (10, .ref 6 0), (11, .ref 8 0), (12, .i e45)]) (hp_pairA_6 c q pos ln r45s0_2 r45s0_5_0 r45s0_6_0 e42) ?_
    intro N
    obtain ⟨b45_y1, hb45_y1, h⟩ := bindSome h
    have p := H0.c (em (apartF_ok hb45_y1) [0, 1, 2] (hp_pairA_6 c q pos ln r45s0_2 r45s0_5_0 r45s0_6_0 e42))
    rcases bifSome h with ⟨b45_c0, h⟩ | ⟨b45_c0, h⟩
    · obtain ⟨⟨b45_g0, b45_g1⟩, h⟩ := guardSome h
      cases h
      exact rr sch_pairA [0, 1, 2, 3, 4, 5, 6, 7, 8, 9] rfl (p.b 50 b45_c0 |>.g s_pairA_9 |>.g b45_g0 |>.t |>.g s_pairA_10 |>.g b45_g1 |>.t)
    · cases h
      exact rr sch_pairA [0, 1, 2, 3, 4, 5, 6, 7, 8, 9] rfl (p.b 50 b45_c0)
inductive pairA_b42T where
  | s0 (r42s0_2 : List Int) (r42s0_5_0 r42s0_6_0 : Int)
def pairA_b42_H (c : ConsD) (q : ProbD) (pos : List Int) (ln : Nat) : pairA_b42T → DH
  | .s0 r42s0_2 r42s0_5_0 r42s0_6_0 => [some (.cells [.ref 1 0]), some (.cells (consC c ++ probC q ++ [.ints pos, .msl 2 1 0 ln])), some (.ints r42s0_2), some (.cells [.fn 65 1 (L1 [.ref 0 0])]), some (.cells [.i (pos.getD ((c.cells.getD 1 0).toNat) 0)]), some (.cells [.i r42s0_5_0]), some (.cells [.i r42s0_6_0]), none]
def pairA_b42_e0 (n : Nat) (c : ConsD) (q : ProbD) (pos : List Int) (ln : Nat) (e42 : Int) (r42s0_2 : List Int) (r42s0_5_0 r42s0_6_0 : Int) : Option pairA_b42T :=
  if 0 ≤ (pos.getD ((c.cells.getD 1 0).toNat) 0) ∧ (pos.getD ((c.cells.getD 1 0).toNat) 0) < 9223372036854775808 then
   (foldO (pairA_b42_b45 n c q pos ln e42) (symsI (pos.getD ((c.cells.getD 1 0).toNat) 0)) (.s0 r42s0_2 r42s0_5_0 r42s0_6_0)).bind fun b42_y1 =>
    match b42_y1 with
    | .s0 b42_y1_0_0 b42_y1_0_1 b42_y1_0_2 =>
     some (.s0 b42_y1_0_0 b42_y1_0_1 b42_y1_0_2)
  else none
def pairA_b42_l0 (n : Nat) (c : ConsD) (q : ProbD) (pos : List Int) (ln : Nat) (e42 : Int) : pairA_b42T → Option pairA_b42T
  | .s0 r42s0_2 r42s0_5_0 r42s0_6_0 => pairA_b42_e0 n c q pos ln e42 r42s0_2 r42s0_5_0 r42s0_6_0
def pairA_b42 (n : Nat) (c : ConsD) (q : ProbD) (pos : List Int) (ln : Nat) (e42 : Int) (s : pairA_b42T) : Option pairA_b42T := pairA_b42_l0 n c q pos ln e42 s
theorem pairA_b42_ok (n : Nat) (c : ConsD) (q : ProbD) (pos : List Int) (ln : Nat) (l B : Nat) (N : Yard Tryd.prog GG 8) (e42 : Int) (s : pairA_b42T) (r : pairA_b42T) (h : pairA_b42 n c q pos ln e42 s = some r) : TrA Tryd.prog GG (Fence.wide.inRound l) (some B) 8 N (RndQ 8 [] 0 (pairA_b42_H c q pos ln r)) (rgA Tryd.f64 42) (rgB Tryd.f64 42) ⟨frm 69 [(0, .ref 1 0), (3, .ref 3 0), (5, .i (c.cells.getD 0 0)), (6, .i (c.cells.getD 1 0)), (8, .ref 4 0), (9, .ref 5 0), (10, .ref 6 0), (42, .it 7), (43, .i e42)], pairA_b42_H c q pos ln s⟩ := by
  unfold pairA_b42 at h
  cases s with
  | s0 r42s0_2 r42s0_5_0 r42s0_6_0 =>
    have h : pairA_b42_e0 n c q pos ln e42 r42s0_2 r42s0_5_0 r42s0_6_0 = some r := h
    unfold pairA_b42_e0 at h
    refine ag sch_pairA [0, 1, 2, 3, 4, 5, 6, 7, 8] (H0.t) (frm 69 [(3, .ref 3 0), (8, .ref 4 0), (9, .ref 5 0), (10, .ref 6 0), (11, .ref 8 0)]) (hp_pairA_4 c q pos ln r42s0_2 r42s0_5_0 r42s0_6_0 e42) ?_
    intro N
    obtain ⟨b42_g0, h⟩ := guardSome h
    obtain ⟨b42_y1, hb42_y1, h⟩ := bindSome h
    refine gs sch_pairA [0, 1, 2, 3, 4, 5, 6, 7, 8, 9] (H0.c (symbols_it b42_g0 (hp_pairA_4 c q pos ln r42s0_2 r42s0_5_0 r42s0_6_0 e42))) (atT (rgB Tryd.f64 42) 45 []) (frm 69 [(3, .ref 3 0), (9, .ref 5 0), (10, .ref 6 0), (11, .ref 8 0), (45, .it 9)]) (hp_pairA_5 c q pos ln r42s0_2 r42s0_5_0 r42s0_6_0 e42) ?_
    refine r0 9 45 #[46] encI 10 hb42_y1 (pairA_b42_b45_ok n c q pos ln e42) ?_
    cases b42_y1 with
    | s0 b42_y1_0_0 b42_y1_0_1 b42_y1_0_2 =>
      dsimp only at h
      cases h
      exact rr sch_pairA [0, 1, 2, 3, 4, 5, 6, 7] rfl H0
def pairA_l0 (n : Nat) (c : ConsD) (q : ProbD) (pos : List Int) (ln : Nat) (lost : List Int) : Option (Bool × (List Int)) :=
  if ((0 : Int) ≤ 0 ∧ 0 < (c.cells.length : Int)) ∧ ((0 : Int) ≤ 1 ∧ 1 < (c.cells.length : Int)) ∧ (0 ≤ (c.cells.getD 0 0) ∧ (c.cells.getD 0 0) < (pos.length : Int)) ∧ (0 ≤ (c.cells.getD 1 0) ∧ (c.cells.getD 1 0) < (pos.length : Int)) ∧ (0 ≤ (pos.getD ((c.cells.getD 0 0).toNat) 0) ∧ (pos.getD ((c.cells.getD 0 0).toNat) 0) < 9223372036854775808) then
   (foldO (pairA_b42 n c q pos ln) (symsI (pos.getD ((c.cells.getD 0 0).toNat) 0)) (.s0 lost 0 0)).bind fun y1 =>
    match y1 with
    | .s0 y1_0_0 y1_0_1 y1_0_2 =>
     (loseW n (c.cells.getD 0 0) (bits .xor .i64 (-1) y1_0_1) c q pos ln y1_0_0).bind fun y2 =>
      (loseW n (c.cells.getD 1 0) (bits .xor .i64 (-1) y1_0_2) c q pos ln y2).bind fun y3 =>
       some (true, y3)
  else none
def pairA (n : Nat) (c : ConsD) (q : ProbD) (pos : List Int) (ln : Nat) (lost : List Int) : Option (Bool × (List Int)) := pairA_l0 n c q pos ln lost
theorem pairA_ok {n : Nat} {c : ConsD} {q : ProbD} {pos : List Int} {ln : Nat} {lost : List Int} {r : Bool × (List Int)} (h : pairA n c q pos ln lost = some r) : ES Tryd.prog GG 64 [.ref 1 0, .fn 65 1 (L1 [.ref 0 0])] [some (.cells [.ref 1 0]), some (.cells (consC c ++ probC q ++ [.ints pos, .msl 2 1 0 ln])), some (.ints lost)] (.bool r.1) [some (.cells [.ref 1 0]), some (.cells (consC c ++ probC q ++ [.ints pos, .msl 2 1 0 ln])), some (.ints r.2)] false := by
  refine ot Tryd.func64 fun B N => ?_
  unfold pairA at h
  unfold pairA_l0 at h
  obtain ⟨⟨g0, g1, g2, g3, g4⟩, h⟩ := guardSome h
  obtain ⟨y1, hy1, h⟩ := bindSome h
  refine gs sch_pairA [0, 1, 2, 3, 4, 5, 6, 7] (H0.g s_pairA_1 |>.g g0 |>.g g1 |>.g s_pairA_2 |>.g g2 |>.g g3 |>.t |>.c (symbols_it g4 (hp_pairA_0 c q pos ln lost))) (atT (bodyC Tryd.f64) 42 []) (frm 69 [(0, .ref 1 0), (3, .ref 3 0), (5, .i (c.cells.getD 0 0)), (6, .i (c.cells.getD 1 0)), (8, .ref 4 0), (9, .ref 5 0), (10, .ref 6 0), (42, .it 7)]) (hp_pairA_1 c q pos ln lost) ?_
  refine r0 7 42 #[43] encI 8 hy1 (pairA_b42_ok n c q pos ln) ?_
  cases y1 with
  | s0 y1_0_0 y1_0_1 y1_0_2 =>
    dsimp only at h
    obtain ⟨y2, hy2, h⟩ := bindSome h
    obtain ⟨y3, hy3, h⟩ := bindSome h
    cases h
    exact ee sch_pairA [4] [0, 1, 2] (H0.c (em (loseW_ok hy2) [1, 2] (hp_pairA_2 c q pos ln y1_0_0 y1_0_1 y1_0_2)) |>.c (em (loseW_ok hy3) [1, 2] (hp_pairA_3 c q pos ln y2 y1_0_1 y1_0_2)))
theorem s_pairN_1 : SOk (regF Tryd.f64 1) [] (List.range 16) [] := by unfold SOk; kernel_rfl
theorem s_pairN_2 : SOk (regF Tryd.f64 2) [([0, 1, 2, 3, 4, 5, 6, 7, 8, 9, 10, 11, 12, 13], 14)] [15] [16] := by unfold SOk; kernel_rfl
theorem s_pairN_9 : SOk (regF Tryd.f64 9) [] [0, 1, 2, 3] [4] := by unfold SOk; kernel_rfl
theorem s_pairN_10 : SOk (regF Tryd.f64 10) [] [0, 1, 2, 3] [4] := by unfold SOk; kernel_rfl
def sch_pairN : Sch := fun i => match i with
  | 1 => .ord [] (List.range 16) []
  | 2 => .ord [([0, 1, 2, 3, 4, 5, 6, 7, 8, 9, 10, 11, 12, 13], 14)] [15] [16]
  | 9 => .ord [] [0, 1, 2, 3] [4]
  | 10 => .ord [] [0, 1, 2, 3] [4]
  | _ => .no
def hp_pairN_0 (c : ConsD) (q : ProbD) (pos : List Int) (ln : Nat) (lost : List Int) : DH := [some (.cells [.ref 1 0]), some (.cells (consC c ++ probC q ++ [.ints pos, .msl 2 1 0 ln])), some (.ints lost), some (.cells [.fn 66 1 (L1 [.ref 0 0])]), some (.cells [.i (pos.getD ((c.cells.getD 1 0).toNat) 0)]), some (.cells [.i 0]), some (.cells [.i 0])]
def hp_pairN_1 (c : ConsD) (q : ProbD) (pos : List Int) (ln : Nat) (lost : List Int) : DH := [some (.cells [.ref 1 0]), some (.cells (consC c ++ probC q ++ [.ints pos, .msl 2 1 0 ln])), some (.ints lost), some (.cells [.fn 66 1 (L1 [.ref 0 0])]), some (.cells [.i (pos.getD ((c.cells.getD 1 0).toNat) 0)]), some (.cells [.i 0]), some (.cells [.i 0]), some (.iter ((symsI (pos.getD ((c.cells.getD 0 0).toNat) 0)).map encI))]
def hp_pairN_2 (c : ConsD) (q : ProbD) (pos : List Int) (ln : Nat) (y1_0_0 : List Int) (y1_0_1 y1_0_2 : Int) : DH := [some (.cells [.ref 1 0]), some (.cells (consC c ++ probC q ++ [.ints pos, .msl 2 1 0 ln])), some (.ints y1_0_0), some (.cells [.fn 66 1 (L1 [.ref 0 0])]), some (.cells [.i (pos.getD ((c.cells.getD 1 0).toNat) 0)]), some (.cells [.i y1_0_1]), some (.cells [.i y1_0_2]), none]
def hp_pairN_3 (c : ConsD) (q : ProbD) (pos : List Int) (ln : Nat) (y2 : (List Int)) (y1_0_1 y1_0_2 : Int) : DH := [some (.cells [.ref 1 0]), some (.cells (consC c ++ probC q ++ [.ints pos, .msl 2 1 0 ln])), some (.ints y2), some (.cells [.fn 66 1 (L1 [.ref 0 0])]), some (.cells [.i (pos.getD ((c.cells.getD 1 0).toNat) 0)]), some (.cells [.i y1_0_1]), some (.cells [.i y1_0_2]), none]
def hp_pairN_4 (c : ConsD) (q : ProbD) (pos : List Int) (ln : Nat) (r42s0_2 : List Int) (r42s0_5_0 r42s0_6_0 e42 : Int) : DH := [some (.cells [.ref 1 0]), some (.cells (consC c ++ probC q ++ [.ints pos, .msl 2 1 0 ln])), some (.ints r42s0_2), some (.cells [.fn 66 1 (L1 [.ref 0 0])]), some (.cells [.i (pos.getD ((c.cells.getD 1 0).toNat) 0)]), some (.cells [.i r42s0_5_0]), some (.cells [.i r42s0_6_0]), none, some (.cells [.i e42])]
def hp_pairN_5 (c : ConsD) (q : ProbD) (pos : List Int) (ln : Nat) (r42s0_2 : List Int) (r42s0_5_0 r42s0_6_0 e42 : Int) : DH := [some (.cells [.ref 1 0]), some (.cells (consC c ++ probC q ++ [.ints pos, .msl 2 1 0 ln])), some (.ints r42s0_2), some (.cells [.fn 66 1 (L1 [.ref 0 0])]), some (.cells [.i (pos.getD ((c.cells.getD 1 0).toNat) 0)]), some (.cells [.i r42s0_5_0]), some (.cells [.i r42s0_6_0]), none, some (.cells [.i e42]), some (.iter ((symsI (pos.getD ((c.cells.getD 1 0).toNat) 0)).map encI))]
def hp_pairN_6 (c : ConsD) (q : ProbD) (pos : List Int) (ln : Nat) (r45s0_2 : List Int) (r45s0_5_0 r45s0_6_0 e42 : Int) : DH := [some (.cells [.ref 1 0]), some (.cells (consC c ++ probC q ++ [.ints pos, .msl 2 1 0 ln])), some (.ints r45s0_2), some (.cells [.fn 66 1 (L1 [.ref 0 0])]), some (.cells [.i (pos.getD ((c.cells.getD 1 0).toNat) 0)]), some (.cells [.i r45s0_5_0]), some (.cells [.i r45s0_6_0]), none, some (.cells [.i e42]), none]
inductive pairN_b42_b45T where
  | s0 (r45s0_2 : List Int) (r45s0_5_0 r45s0_6_0 : Int)
def pairN_b42_b45_H (c : ConsD) (q : ProbD) (pos : List Int) (ln : Nat) (e42 : Int) : pairN_b42_b45T → DH
  | .s0 r45s0_2 r45s0_5_0 r45s0_6_0 => [some (.cells [.ref 1 0]), some (.cells (consC c ++ probC q ++ [.ints pos, .msl 2 1 0 ln])), some (.ints r45s0_2), some (.cells [.fn 66 1 (L1 [.ref 0 0])]), some (.cells [.i (pos.getD ((c.cells.getD 1 0).toNat) 0)]), some (.cells [.i r45s0_5_0]), some (.cells [.i r45s0_6_0]), none, some (.cells [.i e42]), none]
def pairN_b42_b45_e0 (n : Nat) (c : ConsD) (q : ProbD) (pos : List Int) (ln : Nat) (e42 e45 : Int) (r45s0_2 : List Int) (r45s0_5_0 r45s0_6_0 : Int) : Option pairN_b42_b45T :=
  (notF n e42 e45 c q pos ln r45s0_2).bind fun b45_y1 =>
   bif b45_y1.1 then
    if (0 ≤ e42 ∧ e42 ≤ (IntKind.i64.bits : Int)) ∧ (0 ≤ e45 ∧ e45 ≤ (IntKind.i64.bits : Int)) then
     some (.s0 b45_y1.2 (bits .or .i64 r45s0_5_0 (IntKind.i64.wrap (1 * 2 ^ (e42).toNat))) (bits .or .i64 r45s0_6_0 (IntKind.i64.wrap (1 * 2 ^ (e45).toNat))))
    else none
   else
    some (.s0 b45_y1.2 r45s0_5_0 r45s0_6_0)
def pairN_b42_b45_l0 (n : Nat) (c : ConsD) (q : ProbD) (pos : List Int) (ln : Nat) (e42 e45 : Int) : pairN_b42_b45T → Option pairN_b42_b45T
  | .s0 r45s0_2 r45s0_5_0 r45s0_6_0 => pairN_b42_b45_e0 n c q pos ln e42 e45 r45s0_2 r45s0_5_0 r45s0_6_0
def pairN_b42_b45 (n : Nat) (c : ConsD) (q : ProbD) (pos : List Int) (ln : Nat) (e42 e45 : Int) (s : pairN_b42_b45T) : Option pairN_b42_b45T := pairN_b42_b45_l0 n c q pos ln e42 e45 s
theorem pairN_b42_b45_ok (n : Nat) (c : ConsD) (q : ProbD) (pos : List Int) (ln : Nat) (e42 : Int) (l B : Nat) (N : Yard Tryd.prog GG 10) (e45 : Int) (s : pairN_b42_b45T) (r : pairN_b42_b45T) (h : pairN_b42_b45 n c q pos ln e42 e45 s = some r) : TrA Tryd.prog GG (Fence.wide.inRound l) (some B) 10 N (RndQ 10 [] 0 (pairN_b42_b45_H c q pos ln e42 r)) (rgA Tryd.f64 45) (rgB Tryd.f64 45) ⟨frm 69 [(3, .ref 3 0), (9, .ref 5 0), (10, .ref 6 0), (11, .ref 8 0), (45, .it 9), (46, .i e45)], pairN_b42_b45_H c q pos ln e42 s⟩ := by
  unfold pairN_b42_b45 at h
  cases s with
  | s0 r45s0_2 r45s0_5_0 r45s0_6_0 =>
    have h : pairN_b42_b45_e0 n c q pos ln e42 e45 r45s0_2 r45s0_5_0 r45s0_6_0 = some r := h
    unfold pairN_b42_b45_e0 at h
    refine ag sch_pairN [0, 1, 2, 3, 4, 5, 6, 7, 8, 9] H0 (frm 69 [(3, .ref 3 0), (9, .ref 5 0), (10, .ref 6 0), (11, .ref 8 0), (12, .i e45)]) (hp_pairN_6 c q pos ln r45s0_2 r45s0_5_0 r45s0_6_0 e42) ?_
    intro N
    obtain ⟨b45_y1, hb45_y1, h⟩ := bindSome h
    have p := H0.c (em (notF_ok hb45_y1) [0, 1, 2] (hp_pairN_6 c q pos ln r45s0_2 r45s0_5_0 r45s0_6_0 e42))
    rcases bifSome h with ⟨b45_c0, h⟩ | ⟨b45_c0, h⟩
    · obtain ⟨⟨b45_g0, b45_g1⟩, h⟩ := guardSome h
      cases h
      exact rr sch_pairN [0, 1, 2, 3, 4, 5, 6, 7, 8, 9] rfl (p.b 50 b45_c0 |>.g s_pairN_9 |>.g b45_g0 |>.t |>.g s_pairN_10 |>.g b45_g1 |>.t)
    · cases h
      exact rr sch_pairN [0, 1, 2, 3, 4, 5, 6, 7, 8, 9] rfl (p.b 50 b45_c0)
inductive pairN_b42T where
  | s0 (r42s0_2 : List Int) (r42s0_5_0 r42s0_6_0 : Int)
def pairN_b42_H (c : ConsD) (q : ProbD) (pos : List Int) (ln : Nat) : pairN_b42T → DH
  | .s0 r42s0_2 r42s0_5_0 r42s0_6_0 => [some (.cells [.ref 1 0]), some (.cells (consC c ++ probC q ++ [.ints pos, .msl 2 1 0 ln])), some (.ints r42s0_2), some (.cells [.fn 66 1 (L1 [.ref 0 0])]), some (.cells [.i (pos.getD ((c.cells.getD 1 0).toNat) 0)]), some (.cells [.i r42s0_5_0]), some (.cells [.i r42s0_6_0]), none]
def pairN_b42_e0 (n : Nat) (c : ConsD) (q : ProbD) (pos : List Int) (ln : Nat) (e42 : Int) (r42s0_2 : List Int) (r42s0_5_0 r42s0_6_0 : Int) : Option pairN_b42T :=
  if 0 ≤ (pos.getD ((c.cells.getD 1 0).toNat) 0) ∧ (pos.getD ((c.cells.getD 1 0).toNat) 0) < 9223372036854775808 then
   (foldO (pairN_b42_b45 n c q pos ln e42) (symsI (pos.getD ((c.cells.getD 1 0).toNat) 0)) (.s0 r42s0_2 r42s0_5_0 r42s0_6_0)).bind fun b42_y1 =>
    match b42_y1 with
    | .s0 b42_y1_0_0 b42_y1_0_1 b42_y1_0_2 =>
     some (.s0 b42_y1_0_0 b42_y1_0_1 b42_y1_0_2)
  else none
def pairN_b42_l0 (n : Nat) (c : ConsD) (q : ProbD) (pos : List Int) (ln : Nat) (e42 : Int) : pairN_b42T → Option pairN_b42T
  | .s0 r42s0_2 r42s0_5_0 r42s0_6_0 => pairN_b42_e0 n c q pos ln e42 r42s0_2 r42s0_5_0 r42s0_6_0
def pairN_b42 (n : Nat) (c : ConsD) (q : ProbD) (pos : List Int) (ln : Nat) (e42 : Int) (s : pairN_b42T) : Option pairN_b42T := pairN_b42_l0 n c q pos ln e42 s
theorem pairN_b42_ok (n : Nat) (c : ConsD) (q : ProbD) (pos : List Int) (ln : Nat) (l B : Nat) (N : Yard Tryd.prog GG 8) (e42 : Int) (s : pairN_b42T) (r : pairN_b42T) (h : pairN_b42 n c q pos ln e42 s = some r) : TrA Tryd.prog GG (Fence.wide.inRound l) (some B) 8 N (RndQ 8 [] 0 (pairN_b42_H c q pos ln r)) (rgA Tryd.f64 42) (rgB Tryd.f64 42) ⟨frm 69 [(0, .ref 1 0), (3, .ref 3 0), (5, .i (c.cells.getD 0 0)), (6, .i (c.cells.getD 1 0)), (8, .ref 4 0), (9, .ref 5 0), (10, .ref 6 0), (42, .it 7), (43, .i e42)], pairN_b42_H c q pos ln s⟩ := by
  unfold pairN_b42 at h
  cases s with
  | s0 r42s0_2 r42s0_5_0 r42s0_6_0 =>
    have h : pairN_b42_e0 n c q pos ln e42 r42s0_2 r42s0_5_0 r42s0_6_0 = some r := h
    unfold pairN_b42_e0 at h
    refine ag sch_pairN [0, 1, 2, 3, 4, 5, 6, 7, 8] (H0.t) (frm 69 [(3, .ref 3 0), (8, .ref 4 0), (9, .ref 5 0), (10, .ref 6 0), (11, .ref 8 0)]) (hp_pairN_4 c q pos ln r42s0_2 r42s0_5_0 r42s0_6_0 e42) ?_
    intro N
    obtain ⟨b42_g0, h⟩ := guardSome h
    obtain ⟨b42_y1, hb42_y1, h⟩ := bindSome h
    refine gs sch_pairN [0, 1, 2, 3, 4, 5, 6, 7, 8, 9] (H0.c (symbols_it b42_g0 (hp_pairN_4 c q pos ln r42s0_2 r42s0_5_0 r42s0_6_0 e42))) (atT (rgB Tryd.f64 42) 45 []) (frm 69 [(3, .ref 3 0), (9, .ref 5 0), (10, .ref 6 0), (11, .ref 8 0), (45, .it 9)]) (hp_pairN_5 c q pos ln r42s0_2 r42s0_5_0 r42s0_6_0 e42) ?_
    refine r0 9 45 #[46] encI 10 hb42_y1 (pairN_b42_b45_ok n c q pos ln e42) ?_
    cases b42_y1 with
    | s0 b42_y1_0_0 b42_y1_0_1 b42_y1_0_2 =>
      dsimp only at h
      cases h
      exact rr sch_pairN [0, 1, 2, 3, 4, 5, 6, 7] rfl H0
def pairN_l0 (n : Nat) (c : ConsD) (q : ProbD) (pos : List Int) (ln : Nat) (lost : List Int) : Option (Bool × (List Int)) :=
  if ((0 : Int) ≤ 0 ∧ 0 < (c.cells.length : Int)) ∧ ((0 : Int) ≤ 1 ∧ 1 < (c.cells.length : Int)) ∧ (0 ≤ (c.cells.getD 0 0) ∧ (c.cells.getD 0 0) < (pos.length : Int)) ∧ (0 ≤ (c.cells.getD 1 0) ∧ (c.cells.getD 1 0) < (pos.length : Int)) ∧ (0 ≤ (pos.getD ((c.cells.getD 0 0).toNat) 0) ∧ (pos.getD ((c.cells.getD 0 0).toNat) 0) < 9223372036854775808) then
   (foldO (pairN_b42 n c q pos ln) (symsI (pos.getD ((c.cells.getD 0 0).toNat) 0)) (.s0 lost 0 0)).bind fun y1 =>
    match y1 with
    | .s0 y1_0_0 y1_0_1 y1_0_2 =>
     (loseW n (c.cells.getD 0 0) (bits .xor .i64 (-1) y1_0_1) c q pos ln y1_0_0).bind fun y2 =>
      (loseW n (c.cells.getD 1 0) (bits .xor .i64 (-1) y1_0_2) c q pos ln y2).bind fun y3 =>
       some (true, y3)
  else none
def pairN (n : Nat) (c : ConsD) (q : ProbD) (pos : List Int) (ln : Nat) (lost : List Int) : Option (Bool × (List Int)) := pairN_l0 n c q pos ln lost
theorem pairN_ok {n : Nat} {c : ConsD} {q : ProbD} {pos : List Int} {ln : Nat} {lost : List Int} {r : Bool × (List Int)} (h : pairN n c q pos ln lost = some r) : ES Tryd.prog GG 64 [.ref 1 0, .fn 66 1 (L1 [.ref 0 0])] [some (.cells [.ref 1 0]), some (.cells (consC c ++ probC q ++ [.ints pos, .msl 2 1 0 ln])), some (.ints lost)] (.bool r.1) [some (.cells [.ref 1 0]), some (.cells (consC c ++ probC q ++ [.ints pos, .msl 2 1 0 ln])), some (.ints r.2)] false := by
  refine ot Tryd.func64 fun B N => ?_
  unfold pairN at h
  unfold pairN_l0 at h
  obtain ⟨⟨g0, g1, g2, g3, g4⟩, h⟩ := guardSome h
  obtain ⟨y1, hy1, h⟩ := bindSome h
  refine gs sch_pairN [0, 1, 2, 3, 4, 5, 6, 7] (H0.g s_pairN_1 |>.g g0 |>.g g1 |>.g s_pairN_2 |>.g g2 |>.g g3 |>.t |>.c (symbols_it g4 (hp_pairN_0 c q pos ln lost))) (atT (bodyC Tryd.f64) 42 []) (frm 69 [(0, .ref 1 0), (3, .ref 3 0), (5, .i (c.cells.getD 0 0)), (6, .i (c.cells.getD 1 0)), (8, .ref 4 0), (9, .ref 5 0), (10, .ref 6 0), (42, .it 7)]) (hp_pairN_1 c q pos ln lost) ?_
  refine r0 7 42 #[43] encI 8 hy1 (pairN_b42_ok n c q pos ln) ?_
  cases y1 with
  | s0 y1_0_0 y1_0_1 y1_0_2 =>
    dsimp only at h
    obtain ⟨y2, hy2, h⟩ := bindSome h
    obtain ⟨y3, hy3, h⟩ := bindSome h
    cases h
    exact ee sch_pairN [4] [0, 1, 2] (H0.c (em (loseW_ok hy2) [1, 2] (hp_pairN_2 c q pos ln y1_0_0 y1_0_1 y1_0_2)) |>.c (em (loseW_ok hy3) [1, 2] (hp_pairN_3 c q pos ln y2 y1_0_1 y1_0_2)))
def apartW_l0 (n : Nat) (c : ConsD) (q : ProbD) (pos : List Int) (ln : Nat) (lost : List Int) : Option (Bool × (List Int)) :=
  (pairA n c q pos ln lost).bind fun y1 =>
   some (y1.1, y1.2)
def apartW (n : Nat) (c : ConsD) (q : ProbD) (pos : List Int) (ln : Nat) (lost : List Int) : Option (Bool × (List Int)) := apartW_l0 n c q pos ln lost
theorem apartW_ok {n : Nat} {c : ConsD} {q : ProbD} {pos : List Int} {ln : Nat} {lost : List Int} {r : Bool × (List Int)} (h : apartW n c q pos ln lost = some r) : ES Tryd.prog GG 45 [.ref 0 0] [some (.cells (consC c ++ probC q ++ [.ints pos, .msl 1 1 0 ln])), some (.ints lost)] (.bool r.1) [some (.cells (consC c ++ probC q ++ [.ints pos, .msl 1 1 0 ln])), some (.ints r.2)] false := by
  refine ot Tryd.func45 fun B N => ?_
  unfold apartW at h
  unfold apartW_l0 at h
  obtain ⟨y1, hy1, h⟩ := bindSome h
  cases h
  exact ee sch0 [2] [0, 1] (H0.c (em (pairA_ok hy1) [2, 0, 1] [some (.cells (consC c ++ probC q ++ [.ints pos, .msl 1 1 0 ln])), some (.ints lost), some (.cells [.ref 0 0])]))
def notW_l0 (n : Nat) (c : ConsD) (q : ProbD) (pos : List Int) (ln : Nat) (lost : List Int) : Option (Bool × (List Int)) :=
  (pairN n c q pos ln lost).bind fun y1 =>
   some (y1.1, y1.2)
def notW (n : Nat) (c : ConsD) (q : ProbD) (pos : List Int) (ln : Nat) (lost : List Int) : Option (Bool × (List Int)) := notW_l0 n c q pos ln lost
theorem notW_ok {n : Nat} {c : ConsD} {q : ProbD} {pos : List Int} {ln : Nat} {lost : List Int} {r : Bool × (List Int)} (h : notW n c q pos ln lost = some r) : ES Tryd.prog GG 46 [.ref 0 0] [some (.cells (consC c ++ probC q ++ [.ints pos, .msl 1 1 0 ln])), some (.ints lost)] (.bool r.1) [some (.cells (consC c ++ probC q ++ [.ints pos, .msl 1 1 0 ln])), some (.ints r.2)] false := by
  refine ot Tryd.func46 fun B N => ?_
  unfold notW at h
  unfold notW_l0 at h
  obtain ⟨y1, hy1, h⟩ := bindSome h
  cases h
  exact ee sch0 [2] [0, 1] (H0.c (em (pairN_ok hy1) [2, 0, 1] [some (.cells (consC c ++ probC q ++ [.ints pos, .msl 1 1 0 ln])), some (.ints lost), some (.cells [.ref 0 0])]))
def changeWithout_l0 (n : Nat) (q : ProbD) (pos : List Int) (cell sy : Int) : Option ((List Int) × Int) :=
  (pcheck n q pos).bind fun y1 =>
   bif (y1 != 0) then
    some (([] : List Int), y1)
   else
    bif (decide (cell < 0)) then
     some (([] : List Int), 1)
    else
     bif (decide (cell ≥ q.cells)) then
      some (([] : List Int), 1)
     else
      bif (decide (sy < 0)) then
       some (([] : List Int), 1)
      else
       bif (decide (sy ≥ q.symbols)) then
        some (([] : List Int), 1)
       else
        if ((True) ∧ (0 = 0 ∧ 0 = ([] : List Int).length) ∧ ([] : List Int).length + pos.length ≤ LIM) ∧ (0 ≤ cell ∧ cell < ((([] : List Int).length + pos.length : Nat) : Int)) ∧ 0 + ((cell).toNat) < (([] : List Int) ++ pos).length then
         (withoutP n (IntKind.u64.wrap ((([] : List Int) ++ pos).getD (0 + ((cell).toNat)) 0)) sy).bind fun y2 =>
          if ([] : List Int).length + pos.length = ((([] : List Int) ++ pos).set (0 + ((cell).toNat)) (IntKind.i64.wrap y2)).length then
           (normalP n ((([] : List Int) ++ pos).set (0 + ((cell).toNat)) (IntKind.i64.wrap y2))).bind fun y3 =>
            some (y3, 0)
          else none
        else none
def changeWithout (n : Nat) (q : ProbD) (pos : List Int) (cell sy : Int) : Option ((List Int) × Int) := changeWithout_l0 n q pos cell sy
theorem changeWithout_ok {n : Nat} {q : ProbD} {pos : List Int} {cell sy : Int} {r : (List Int) × Int} (h : changeWithout n q pos cell sy = some r) : ES Tryd.prog GG 28 [.agg 5 (L1 (probC q)), .ints pos, .i cell, .i sy, .fn 29 0 (L1 [])] [] (.tup 2 (L1 [.ints r.1, .i r.2])) [] true := by
  refine ot Tryd.func28 fun B N => ?_
  unfold changeWithout at h
  unfold changeWithout_l0 at h
  obtain ⟨y1, hy1, h⟩ := bindSome h
  have p := H0.c (fb (pcheck_ok hy1) [some (.cells (probC q))])
  rcases bifSome h with ⟨c0, h⟩ | ⟨c0, h⟩
  · cases h
    exact el sch0 [10, 11] [] (p.b 18 c0) [] H0 [.nils, .i y1] (DLe.tupL (l := [.nils, .i y1]) (l' := [.ints ([] : List Int), .i y1]) rfl ⟨DLe.ints_nil, (DLe.refl _), trivial⟩)
  · have p := p.b 18 c0
    rcases bifSome h with ⟨c1, h⟩ | ⟨c1, h⟩
    · cases h
      exact el sch0 [10, 11] [] (p.b 21 c1) [] H0 [.nils, .i 1] (DLe.tupL (l := [.nils, .i 1]) (l' := [.ints ([] : List Int), .i 1]) rfl ⟨DLe.ints_nil, (DLe.refl _), trivial⟩)
    · have p := p.b 21 c1
      rcases bifSome h with ⟨c2, h⟩ | ⟨c2, h⟩
      · cases h
        exact el sch0 [10, 11] [] (p.b 26 c2) [] H0 [.nils, .i 1] (DLe.tupL (l := [.nils, .i 1]) (l' := [.ints ([] : List Int), .i 1]) rfl ⟨DLe.ints_nil, (DLe.refl _), trivial⟩)
      · have p := p.b 26 c2
        rcases bifSome h with ⟨c3, h⟩ | ⟨c3, h⟩
        · cases h
          exact el sch0 [10, 11] [] (p.b 30 c3) [] H0 [.nils, .i 1] (DLe.tupL (l := [.nils, .i 1]) (l' := [.ints ([] : List Int), .i 1]) rfl ⟨DLe.ints_nil, (DLe.refl _), trivial⟩)
        · have p := p.b 30 c3
          rcases bifSome h with ⟨c4, h⟩ | ⟨c4, h⟩
          · cases h
            exact el sch0 [10, 11] [] (p.b 36 c4) [] H0 [.nils, .i 1] (DLe.tupL (l := [.nils, .i 1]) (l' := [.ints ([] : List Int), .i 1]) rfl ⟨DLe.ints_nil, (DLe.refl _), trivial⟩)
          · obtain ⟨⟨g0, g1, g2⟩, h⟩ := guardSome h
            obtain ⟨y2, hy2, h⟩ := bindSome h
            obtain ⟨g3, h⟩ := guardSome h
            refine gz (stopAt 8 sch0) [2] (p.b 36 c4 |>.g g0 |>.g g1 |>.g g2 |>.c (fb (withoutP_ok hy2) [some (.cells (probC q)), none, some (.ints (([] : List Int) ++ pos))]) |>.g g1 |>.g g2) [0] (H0.g g3) (atGC (bodyC Tryd.f28) 8 []) (frm 55 [(13, .ints ((([] : List Int) ++ pos).set (0 + ((cell).toNat)) (IntKind.i64.wrap y2)))]) [none] ?_
            obtain ⟨y3, hy3, h⟩ := bindSome h
            cases h
            exact ee sch0 [10, 11] [] (H0.c (fb (normalP_ok hy3) [none]))
def removeP_l0 (n : Nat) (q : ProbD) (pos : List Int) (cell symbol : Int) : Option ((List Int) × Int) :=
  (changeWithout n q pos cell symbol).bind fun y1 =>
   some (y1.1, y1.2)
def removeP (n : Nat) (q : ProbD) (pos : List Int) (cell symbol : Int) : Option ((List Int) × Int) := removeP_l0 n q pos cell symbol
theorem removeP_ok {n : Nat} {q : ProbD} {pos : List Int} {cell symbol : Int} {r : (List Int) × Int} (h : removeP n q pos cell symbol = some r) : ES Tryd.prog GG 15 [.agg 5 (L1 (probC q)), .ints pos, .i cell, .i symbol] [] (.tup 2 (L1 [.ints r.1, .i r.2])) [] true := by
  refine ot Tryd.func15 fun B N => ?_
  unfold removeP at h
  unfold removeP_l0 at h
  obtain ⟨y1, hy1, h⟩ := bindSome h
  cases h
  exact ee sch0 [8, 9] [] (H0.c (fb (changeWithout_ok hy1) [some (.cells (probC q))]))
def hp_lineQ_0 (kd st oth lo hi : Int) (rn : List Int) (rl spt cells_ symbols_ : Int) : DH := [some (.cells [.i kd, .nils, .i st, .i oth, .i lo, .i hi, .ints rn, .i rl, .i spt]), some (.cells [.i 0, .i 0, .nils, .nils, .nils]), some (.cells [.i cells_, .i symbols_, .nils, .nils, .nils]), none]
def hp_lineQ_1 (kd st oth lo hi : Int) (rn : List Int) (rl spt cells_ symbols_ : Int) (o2_2 : Nat) (o3 : List Int) : DH := [some (.cells [.i kd, .nils, .i st, .i oth, .i lo, .i hi, .ints rn, .i rl, .i spt]), some (.cells [.i 0, .i 0, .nils, .nils, .nils]), some (.cells [.i cells_, .i symbols_, .msl 3 1 0 o2_2, .nils, .nils]), some (.ints o3), none]
def hp_lineQ_2 (kd : Int) (o0_1 : Nat) (st oth lo hi : Int) (rn : List Int) (rl spt : Int) (o1 : List Int) (cells_ symbols_ : Int) (o3_3 : Nat) (o4 : List (List Int)) : DH := [some (.cells [.i kd, .msl 1 1 0 o0_1, .i st, .i oth, .i lo, .i hi, .ints rn, .i rl, .i spt]), some (.ints o1), some (.cells [.i 0, .i 0, .nils, .nils, .nils]), some (.cells [.i cells_, .i symbols_, .nils, .msl 4 1 0 o3_3, .nils]), some (.arr 1 o4.length (rowE intsC o4)), none]
def hp_lineQ_3 (kd : Int) (o1 : List Int) (st oth lo hi : Int) (rn : List Int) (rl spt cells_ symbols_ : Int) (o3_3 : Nat) (o4 : List (List Int)) : DH := [some (.cells [.i kd, .ints o1, .i st, .i oth, .i lo, .i hi, .ints rn, .i rl, .i spt]), none, some (.cells [.i 0, .i 0, .nils, .nils, .nils]), some (.cells [.i cells_, .i symbols_, .nils, .msl 4 1 0 o3_3, .nils]), some (.arr 1 o4.length (rowE intsC o4))]
def hp_lineQ_4 (kd : Int) (o0_1 : Nat) (st oth lo hi : Int) (rn : List Int) (rl spt : Int) (o1 : List Int) (cells_ symbols_ : Int) (o3_2 o3_3 : Nat) (o4t2 : List Int) (o5 : List (List Int)) : DH := [some (.cells [.i kd, .msl 1 1 0 o0_1, .i st, .i oth, .i lo, .i hi, .ints rn, .i rl, .i spt]), some (.ints o1), some (.cells [.i 0, .i 0, .nils, .nils, .nils]), some (.cells [.i cells_, .i symbols_, .msl 4 1 0 o3_2, .msl 5 1 0 o3_3, .nils]), some (.ints o4t2), some (.arr 1 o5.length (rowE intsC o5)), none]
def hp_lineQ_5 (kd : Int) (o1 : List Int) (st oth lo hi : Int) (rn : List Int) (rl spt cells_ symbols_ : Int) (o3_2 o3_3 : Nat) (o4t2 : List Int) (o5 : List (List Int)) : DH := [some (.cells [.i kd, .ints o1, .i st, .i oth, .i lo, .i hi, .ints rn, .i rl, .i spt]), none, some (.cells [.i 0, .i 0, .nils, .nils, .nils]), some (.cells [.i cells_, .i symbols_, .msl 4 1 0 o3_2, .msl 5 1 0 o3_3, .nils]), some (.ints o4t2), some (.arr 1 o5.length (rowE intsC o5))]
inductive lineQPt where
  | l1
  | l2 (x15 : Int) (o2_2 : Nat) (o3 : List Int)
  | l3
  | l4 (o2_2 : Nat) (o3 : List Int)
  | l5 (x27 : Int) (o0_1 : Nat) (o1 : List Int) (o3_3 : Nat) (o4 : List (List Int))
  | l6 (x27 : Int) (o0_1 : Nat) (o1 : List Int) (o3_2 o3_3 : Nat) (o4t2 : List Int) (o5 : List (List Int))
def lineQ_l1 (n : Nat) (self : lineQPt → Option ProbD) (cells_ symbols_ kd st oth lo hi : Int) (rn : List Int) (rl spt : Int) : Option ProbD :=
  bif (decide (0 < symbols_)) then
   self (.l2 1 (([1] : List Int).length) ([1] : List Int))
  else
   self (.l3)
def lineQ_l2 (n : Nat) (self : lineQPt → Option ProbD) (cells_ symbols_ kd st oth lo hi : Int) (rn : List Int) (rl spt : Int) (x15 : Int) (o2_2 : Nat) (o3 : List Int) : Option ProbD :=
  bif (decide (x15 < symbols_)) then
   if R64 (x15 + 1) ∧ ((0 = 0 ∧ 1 = ([(x15 + 1)] : List Int).length) ∧ (0 = 0 ∧ o2_2 = o3.length) ∧ o3.length + ([(x15 + 1)] : List Int).length ≤ LIM) then
    self (.l2 (x15 + 1) (o3.length + ([(x15 + 1)] : List Int).length) (o3 ++ ([(x15 + 1)] : List Int)))
   else none
  else
   self (.l4 o2_2 o3)
def lineQ_l3 (n : Nat) (self : lineQPt → Option ProbD) (cells_ symbols_ kd st oth lo hi : Int) (rn : List Int) (rl spt : Int) : Option ProbD :=
  bif (decide (0 < cells_)) then
   bif (decide (1 < cells_)) then
    self (.l5 1 (([0] : List Int).length) ([0] : List Int) (([([1] : List Int)] : List (List Int)).length) ([([1] : List Int)] : List (List Int)))
   else
    self (.l5 1 (([0] : List Int).length) ([0] : List Int) (([([] : List Int)] : List (List Int)).length) ([([] : List Int)] : List (List Int)))
  else
   some (⟨cells_, symbols_, ([] : List Int), ([] : List (List Int)), ([(⟨kd, ([] : List Int), st, oth, lo, hi, rn, rl, spt⟩ : ConsD)] : List ConsD)⟩ : ProbD)
def lineQ_l4 (n : Nat) (self : lineQPt → Option ProbD) (cells_ symbols_ kd st oth lo hi : Int) (rn : List Int) (rl spt : Int) (o2_2 : Nat) (o3 : List Int) : Option ProbD :=
  bif (decide (0 < cells_)) then
   bif (decide (1 < cells_)) then
    self (.l6 1 (([0] : List Int).length) ([0] : List Int) o2_2 (([([1] : List Int)] : List (List Int)).length) o3 ([([1] : List Int)] : List (List Int)))
   else
    self (.l6 1 (([0] : List Int).length) ([0] : List Int) o2_2 (([([] : List Int)] : List (List Int)).length) o3 ([([] : List Int)] : List (List Int)))
  else
   if o2_2 = o3.length then
    some (⟨cells_, symbols_, o3, ([] : List (List Int)), ([(⟨kd, ([] : List Int), st, oth, lo, hi, rn, rl, spt⟩ : ConsD)] : List ConsD)⟩ : ProbD)
   else none
def lineQ_l5 (n : Nat) (self : lineQPt → Option ProbD) (cells_ symbols_ kd st oth lo hi : Int) (rn : List Int) (rl spt : Int) (x27 : Int) (o0_1 : Nat) (o1 : List Int) (o3_3 : Nat) (o4 : List (List Int)) : Option ProbD :=
  bif (decide (x27 < cells_)) then
   bif (decide (x27 > 0)) then
    if R64 (x27 - 1) ∧ ((0 = 0 ∧ 1 = ([(x27 - 1)] : List Int).length) ∧ 0 < ([(x27 - 1)] : List Int).length ∧ ([(x27 - 1)] : List Int).length ≤ LIM) ∧ R64 (x27 + 1) then
     bif (decide ((x27 + 1) < cells_)) then
      if (0 = 0 ∧ 1 = ([(x27 + 1)] : List Int).length) ∧ (0 = 0 ∧ ([(x27 - 1)] : List Int).length = ([(x27 - 1)] : List Int).length) ∧ ([(x27 - 1)] : List Int).length + ([(x27 + 1)] : List Int).length ≤ LIM then
       if ([(x27 - 1)] : List Int).length + ([(x27 + 1)] : List Int).length = (([(x27 - 1)] : List Int) ++ ([(x27 + 1)] : List Int)).length then
        if o3_3 = o4.length ∧ o4.length + ([([(x27 - 1)] : List Int) ++ ([(x27 + 1)] : List Int)] : List (List Int)).length ≤ LIM ∧ ((0 = 0 ∧ 1 = ([x27] : List Int).length) ∧ (0 = 0 ∧ o0_1 = o1.length) ∧ o1.length + ([x27] : List Int).length ≤ LIM) ∧ R64 (x27 + 1) then
         self (.l5 (x27 + 1) (o1.length + ([x27] : List Int).length) (o1 ++ ([x27] : List Int)) (o4.length + ([([(x27 - 1)] : List Int) ++ ([(x27 + 1)] : List Int)] : List (List Int)).length) (o4 ++ ([([(x27 - 1)] : List Int) ++ ([(x27 + 1)] : List Int)] : List (List Int))))
        else none
       else none
      else none
     else
      if o3_3 = o4.length ∧ o4.length + ([([(x27 - 1)] : List Int)] : List (List Int)).length ≤ LIM ∧ ((0 = 0 ∧ 1 = ([x27] : List Int).length) ∧ (0 = 0 ∧ o0_1 = o1.length) ∧ o1.length + ([x27] : List Int).length ≤ LIM) ∧ R64 (x27 + 1) then
       self (.l5 (x27 + 1) (o1.length + ([x27] : List Int).length) (o1 ++ ([x27] : List Int)) (o4.length + ([([(x27 - 1)] : List Int)] : List (List Int)).length) (o4 ++ ([([(x27 - 1)] : List Int)] : List (List Int))))
      else none
    else none
   else
    if R64 (x27 + 1) then
     bif (decide ((x27 + 1) < cells_)) then
      if (0 = 0 ∧ 1 = ([(x27 + 1)] : List Int).length) ∧ 0 < ([(x27 + 1)] : List Int).length ∧ ([(x27 + 1)] : List Int).length ≤ LIM then
       if o3_3 = o4.length ∧ o4.length + ([([(x27 + 1)] : List Int)] : List (List Int)).length ≤ LIM ∧ ((0 = 0 ∧ 1 = ([x27] : List Int).length) ∧ (0 = 0 ∧ o0_1 = o1.length) ∧ o1.length + ([x27] : List Int).length ≤ LIM) ∧ R64 (x27 + 1) then
        self (.l5 (x27 + 1) (o1.length + ([x27] : List Int).length) (o1 ++ ([x27] : List Int)) (o4.length + ([([(x27 + 1)] : List Int)] : List (List Int)).length) (o4 ++ ([([(x27 + 1)] : List Int)] : List (List Int))))
       else none
      else none
     else
      if o3_3 = o4.length ∧ o4.length + ([([] : List Int)] : List (List Int)).length ≤ LIM ∧ ((0 = 0 ∧ 1 = ([x27] : List Int).length) ∧ (0 = 0 ∧ o0_1 = o1.length) ∧ o1.length + ([x27] : List Int).length ≤ LIM) then
       self (.l5 (x27 + 1) (o1.length + ([x27] : List Int).length) (o1 ++ ([x27] : List Int)) (o4.length + ([([] : List Int)] : List (List Int)).length) (o4 ++ ([([] : List Int)] : List (List Int))))
      else none
    else none
  else
   if o0_1 = o1.length then
    if o3_3 = o4.length then
     some (⟨cells_, symbols_, ([] : List Int), o4, ([(⟨kd, o1, st, oth, lo, hi, rn, rl, spt⟩ : ConsD)] : List ConsD)⟩ : ProbD)
    else none
   else none
def lineQ_l6 (n : Nat) (self : lineQPt → Option ProbD) (cells_ symbols_ kd st oth lo hi : Int) (rn : List Int) (rl spt : Int) (x27 : Int) (o0_1 : Nat) (o1 : List Int) (o3_2 o3_3 : Nat) (o4t2 : List Int) (o5 : List (List Int)) : Option ProbD :=
  bif (decide (x27 < cells_)) then
   bif (decide (x27 > 0)) then
    if R64 (x27 - 1) ∧ ((0 = 0 ∧ 1 = ([(x27 - 1)] : List Int).length) ∧ 0 < ([(x27 - 1)] : List Int).length ∧ ([(x27 - 1)] : List Int).length ≤ LIM) ∧ R64 (x27 + 1) then
     bif (decide ((x27 + 1) < cells_)) then
      if (0 = 0 ∧ 1 = ([(x27 + 1)] : List Int).length) ∧ (0 = 0 ∧ ([(x27 - 1)] : List Int).length = ([(x27 - 1)] : List Int).length) ∧ ([(x27 - 1)] : List Int).length + ([(x27 + 1)] : List Int).length ≤ LIM then
       if ([(x27 - 1)] : List Int).length + ([(x27 + 1)] : List Int).length = (([(x27 - 1)] : List Int) ++ ([(x27 + 1)] : List Int)).length then
        if o3_3 = o5.length ∧ o5.length + ([([(x27 - 1)] : List Int) ++ ([(x27 + 1)] : List Int)] : List (List Int)).length ≤ LIM ∧ ((0 = 0 ∧ 1 = ([x27] : List Int).length) ∧ (0 = 0 ∧ o0_1 = o1.length) ∧ o1.length + ([x27] : List Int).length ≤ LIM) ∧ R64 (x27 + 1) then
         self (.l6 (x27 + 1) (o1.length + ([x27] : List Int).length) (o1 ++ ([x27] : List Int)) o3_2 (o5.length + ([([(x27 - 1)] : List Int) ++ ([(x27 + 1)] : List Int)] : List (List Int)).length) o4t2 (o5 ++ ([([(x27 - 1)] : List Int) ++ ([(x27 + 1)] : List Int)] : List (List Int))))
        else none
       else none
      else none
     else
      if o3_3 = o5.length ∧ o5.length + ([([(x27 - 1)] : List Int)] : List (List Int)).length ≤ LIM ∧ ((0 = 0 ∧ 1 = ([x27] : List Int).length) ∧ (0 = 0 ∧ o0_1 = o1.length) ∧ o1.length + ([x27] : List Int).length ≤ LIM) ∧ R64 (x27 + 1) then
       self (.l6 (x27 + 1) (o1.length + ([x27] : List Int).length) (o1 ++ ([x27] : List Int)) o3_2 (o5.length + ([([(x27 - 1)] : List Int)] : List (List Int)).length) o4t2 (o5 ++ ([([(x27 - 1)] : List Int)] : List (List Int))))
      else none
    else none
   else
    if R64 (x27 + 1) then
     bif (decide ((x27 + 1) < cells_)) then
      if (0 = 0 ∧ 1 = ([(x27 + 1)] : List Int).length) ∧ 0 < ([(x27 + 1)] : List Int).length ∧ ([(x27 + 1)] : List Int).length ≤ LIM then
       if o3_3 = o5.length ∧ o5.length + ([([(x27 + 1)] : List Int)] : List (List Int)).length ≤ LIM ∧ ((0 = 0 ∧ 1 = ([x27] : List Int).length) ∧ (0 = 0 ∧ o0_1 = o1.length) ∧ o1.length + ([x27] : List Int).length ≤ LIM) ∧ R64 (x27 + 1) then
        self (.l6 (x27 + 1) (o1.length + ([x27] : List Int).length) (o1 ++ ([x27] : List Int)) o3_2 (o5.length + ([([(x27 + 1)] : List Int)] : List (List Int)).length) o4t2 (o5 ++ ([([(x27 + 1)] : List Int)] : List (List Int))))
       else none
      else none
     else
      if o3_3 = o5.length ∧ o5.length + ([([] : List Int)] : List (List Int)).length ≤ LIM ∧ ((0 = 0 ∧ 1 = ([x27] : List Int).length) ∧ (0 = 0 ∧ o0_1 = o1.length) ∧ o1.length + ([x27] : List Int).length ≤ LIM) then
       self (.l6 (x27 + 1) (o1.length + ([x27] : List Int).length) (o1 ++ ([x27] : List Int)) o3_2 (o5.length + ([([] : List Int)] : List (List Int)).length) o4t2 (o5 ++ ([([] : List Int)] : List (List Int))))
      else none
    else none
  else
   if o0_1 = o1.length then
    if o3_2 = o4t2.length ∧ o3_3 = o5.length then
     some (⟨cells_, symbols_, o4t2, o5, ([(⟨kd, o1, st, oth, lo, hi, rn, rl, spt⟩ : ConsD)] : List ConsD)⟩ : ProbD)
    else none
   else none
def lineQ_l0 (n : Nat) (self : lineQPt → Option ProbD) (cells_ symbols_ kd st oth lo hi : Int) (rn : List Int) (rl spt : Int) : Option ProbD :=
  self (.l1)
def lineQ_m (cells_ symbols_ kd st oth lo hi : Int) (rn : List Int) (rl spt : Int) : Nat → lineQPt → Option ProbD
  | 0, _ => none
  | n + 1, .l1 => lineQ_l1 n (lineQ_m cells_ symbols_ kd st oth lo hi rn rl spt n) cells_ symbols_ kd st oth lo hi rn rl spt
  | n + 1, .l2 x15 o2_2 o3 => lineQ_l2 n (lineQ_m cells_ symbols_ kd st oth lo hi rn rl spt n) cells_ symbols_ kd st oth lo hi rn rl spt x15 o2_2 o3
  | n + 1, .l3 => lineQ_l3 n (lineQ_m cells_ symbols_ kd st oth lo hi rn rl spt n) cells_ symbols_ kd st oth lo hi rn rl spt
  | n + 1, .l4 o2_2 o3 => lineQ_l4 n (lineQ_m cells_ symbols_ kd st oth lo hi rn rl spt n) cells_ symbols_ kd st oth lo hi rn rl spt o2_2 o3
  | n + 1, .l5 x27 o0_1 o1 o3_3 o4 => lineQ_l5 n (lineQ_m cells_ symbols_ kd st oth lo hi rn rl spt n) cells_ symbols_ kd st oth lo hi rn rl spt x27 o0_1 o1 o3_3 o4
  | n + 1, .l6 x27 o0_1 o1 o3_2 o3_3 o4t2 o5 => lineQ_l6 n (lineQ_m cells_ symbols_ kd st oth lo hi rn rl spt n) cells_ symbols_ kd st oth lo hi rn rl spt x27 o0_1 o1 o3_2 o3_3 o4t2 o5
def lineQ (n : Nat) (cells_ symbols_ kd st oth lo hi : Int) (rn : List Int) (rl spt : Int) : Option ProbD := lineQ_l0 n (lineQ_m cells_ symbols_ kd st oth lo hi rn rl spt n) cells_ symbols_ kd st oth lo hi rn rl spt
/-- What the points stand for. -/
def lineQ_at (n : Nat) (B : Nat) (N : Yard Tryd.prog GG 0) (cells_ symbols_ kd st oth lo hi : Int) (rn : List Int) (rl spt : Int) (r : ProbD) : lineQPt → Prop
  | .l1 => ∀ m0 : Nat, n ≤ m0 → TrK Tryd.prog GG Fence.wide (some B) 0 N (Fin Tryd.prog Tryd.f18 0 (.agg 5 (L1 (probC r))) []) (toN m0 (atNC (bodyC Tryd.f18) 0 [])) ⟨frm 63 [(0, .i cells_), (5, .ref 0 0), (6, .ref 1 0), (7, .ref 2 0), (14, .i symbols_), (15, .i 0)], [some (.cells [.i kd, .nils, .i st, .i oth, .i lo, .i hi, .ints rn, .i rl, .i spt]), some (.cells [.i 0, .i 0, .nils, .nils, .nils]), some (.cells [.i cells_, .i symbols_, .nils, .nils, .nils])]⟩
  | .l2 x15 o2_2 o3 => ∀ m0 : Nat, n ≤ m0 → TrK Tryd.prog GG Fence.wide (some B) 0 N (Fin Tryd.prog Tryd.f18 0 (.agg 5 (L1 (probC r))) []) (toN m0 (atNC (bodyC Tryd.f18) 0 [])) ⟨frm 63 [(0, .i cells_), (5, .ref 0 0), (6, .ref 1 0), (7, .ref 2 0), (14, .i symbols_), (15, .i x15)], [some (.cells [.i kd, .nils, .i st, .i oth, .i lo, .i hi, .ints rn, .i rl, .i spt]), some (.cells [.i 0, .i 0, .nils, .nils, .nils]), some (.cells [.i cells_, .i symbols_, .msl 3 1 0 o2_2, .nils, .nils]), some (.ints o3)]⟩
  | .l3 => ∀ m0 : Nat, n ≤ m0 → TrK Tryd.prog GG Fence.wide (some B) 0 N (Fin Tryd.prog Tryd.f18 0 (.agg 5 (L1 (probC r))) []) (toN m0 (atNC (bodyC Tryd.f18) 2 [])) ⟨frm 63 [(0, .i cells_), (5, .ref 0 0), (6, .ref 1 0), (7, .ref 2 0), (26, .i cells_), (27, .i 0)], [some (.cells [.i kd, .nils, .i st, .i oth, .i lo, .i hi, .ints rn, .i rl, .i spt]), some (.cells [.i 0, .i 0, .nils, .nils, .nils]), some (.cells [.i cells_, .i symbols_, .nils, .nils, .nils])]⟩
  | .l4 o2_2 o3 => ∀ m0 : Nat, n ≤ m0 → TrK Tryd.prog GG Fence.wide (some B) 0 N (Fin Tryd.prog Tryd.f18 0 (.agg 5 (L1 (probC r))) []) (toN m0 (atNC (bodyC Tryd.f18) 2 [])) ⟨frm 63 [(0, .i cells_), (5, .ref 0 0), (6, .ref 1 0), (7, .ref 2 0), (26, .i cells_), (27, .i 0)], [some (.cells [.i kd, .nils, .i st, .i oth, .i lo, .i hi, .ints rn, .i rl, .i spt]), some (.cells [.i 0, .i 0, .nils, .nils, .nils]), some (.cells [.i cells_, .i symbols_, .msl 3 1 0 o2_2, .nils, .nils]), some (.ints o3)]⟩
  | .l5 x27 o0_1 o1 o3_3 o4 => ∀ m0 : Nat, n ≤ m0 → TrK Tryd.prog GG Fence.wide (some B) 0 N (Fin Tryd.prog Tryd.f18 0 (.agg 5 (L1 (probC r))) []) (toN m0 (atNC (bodyC Tryd.f18) 2 [])) ⟨frm 63 [(0, .i cells_), (5, .ref 0 0), (6, .ref 2 0), (7, .ref 3 0), (26, .i cells_), (27, .i x27)], [some (.cells [.i kd, .msl 1 1 0 o0_1, .i st, .i oth, .i lo, .i hi, .ints rn, .i rl, .i spt]), some (.ints o1), some (.cells [.i 0, .i 0, .nils, .nils, .nils]), some (.cells [.i cells_, .i symbols_, .nils, .msl 4 1 0 o3_3, .nils]), some (.arr 1 o4.length (rowE intsC o4))]⟩
  | .l6 x27 o0_1 o1 o3_2 o3_3 o4t2 o5 => ∀ m0 : Nat, n ≤ m0 → TrK Tryd.prog GG Fence.wide (some B) 0 N (Fin Tryd.prog Tryd.f18 0 (.agg 5 (L1 (probC r))) []) (toN m0 (atNC (bodyC Tryd.f18) 2 [])) ⟨frm 63 [(0, .i cells_), (5, .ref 0 0), (6, .ref 2 0), (7, .ref 3 0), (26, .i cells_), (27, .i x27)], [some (.cells [.i kd, .msl 1 1 0 o0_1, .i st, .i oth, .i lo, .i hi, .ints rn, .i rl, .i spt]), some (.ints o1), some (.cells [.i 0, .i 0, .nils, .nils, .nils]), some (.cells [.i cells_, .i symbols_, .msl 4 1 0 o3_2, .msl 5 1 0 o3_3, .nils]), some (.ints o4t2), some (.arr 1 o5.length (rowE intsC o5))]⟩
theorem lineQ_all (B : Nat) (N : Yard Tryd.prog GG 0) (cells_ symbols_ kd st oth lo hi : Int) (rn : List Int) (rl spt : Int) : ∀ (n : Nat) (pt : lineQPt) (r : ProbD), lineQ_m cells_ symbols_ kd st oth lo hi rn rl spt n pt = some r → lineQ_at n B N cells_ symbols_ kd st oth lo hi rn rl spt r pt := by
  intro n; induction n with
  | zero => intro _ _ h; cases h
  | succ n hself =>
   intro pt r h
   cases pt
   case l1 =>
    have h : lineQ_l1 n (lineQ_m cells_ symbols_ kd st oth lo hi rn rl spt n) cells_ symbols_ kd st oth lo hi rn rl spt = some r := h
    intro m0 hm0
    refine rd hm0 fun m0 hm0 => ?_
    unfold lineQ_l1 at h
    rcases bifSome h with ⟨c0, h⟩ | ⟨c0, h⟩
    · exact gg sch0 [0, 1, 2, 4] (H0.b 16 c0 |>.g (by decide : (0 = 0 ∧ 1 = ([1] : List Int).length) ∧ 0 < ([1] : List Int).length ∧ ([1] : List Int).length ≤ LIM) |>.t) (hself _ _ h m0 hm0)
    · exact gg sch0 [0, 1, 2] (H0.b 16 c0) (en n (hself _ _ h n (Nat.le_refl _)))
   case l2 x15 o2_2 o3 =>
    have h : lineQ_l2 n (lineQ_m cells_ symbols_ kd st oth lo hi rn rl spt n) cells_ symbols_ kd st oth lo hi rn rl spt x15 o2_2 o3 = some r := h
    intro m0 hm0
    refine rd hm0 fun m0 hm0 => ?_
    unfold lineQ_l2 at h
    rcases bifSome h with ⟨c0, h⟩ | ⟨c0, h⟩
    · obtain ⟨⟨g0, g1⟩, h⟩ := guardSome h
      exact gg sch0 [0, 1, 2, 5] (H0.b 16 c0 |>.w 21 g0 |>.g g1 |>.t |>.w 25 g0) (hself _ _ h m0 hm0)
    · exact gg sch0 [0, 1, 2, 3] (H0.b 16 c0) (en n (hself _ _ h n (Nat.le_refl _)))
   case l3 =>
    have h : lineQ_l3 n (lineQ_m cells_ symbols_ kd st oth lo hi rn rl spt n) cells_ symbols_ kd st oth lo hi rn rl spt = some r := h
    intro m0 hm0
    refine rd hm0 fun m0 hm0 => ?_
    unfold lineQ_l3 at h
    rcases bifSome h with ⟨c0, h⟩ | ⟨c0, h⟩
    · have p := H0.b 28 c0
      rcases bifSome h with ⟨c1, h⟩ | ⟨c1, h⟩
      · refine gz (stopAt 15 sch0) [0, 1, 2, 4] (p.b 40 c1 |>.g (by decide : (0 = 0 ∧ 1 = ([1] : List Int).length) ∧ 0 < ([1] : List Int).length ∧ ([1] : List Int).length ≤ LIM)) [3] (H0.g (Eq.refl (([1] : List Int).length))) (atGC (bodyC Tryd.f18) 15 [m0]) (frm 63 [(0, .i cells_), (5, .ref 0 0), (6, .ref 1 0), (7, .ref 2 0), (9, .i 0), (10, .ints ([1] : List Int)), (26, .i cells_), (27, .i 0)]) (hp_lineQ_0 kd st oth lo hi rn rl spt cells_ symbols_) ?_
        exact gg sch0 [0, 7, 1, 2, 5] (H0.a 49 4 1 (rows_build (c := intsC) (L := ([([1] : List Int)] : List (List Int))) (vals := [.ints ([1] : List Int)]) rfl ⟨⟨_, rfl, ⟨dle_refl, trivial⟩⟩, trivial⟩) |>.g (And.intro (And.intro (And.intro (Eq.refl 0) (by decide : 1 = ([([1] : List Int)] : List (List Int)).length)) (oneR intsC ([([1] : List Int)] : List (List Int)) (([([1] : List Int)] : List (List Int)).length) 1 fun _ => ⟨rfl, rfl⟩)) (And.intro (by decide : 0 < ([([1] : List Int)] : List (List Int)).length) (by decide : ([([1] : List Int)] : List (List Int)).length ≤ LIM))) |>.t |>.g (by decide : (0 = 0 ∧ 1 = ([0] : List Int).length) ∧ 0 < ([0] : List Int).length ∧ ([0] : List Int).length ≤ LIM) |>.t) (hself _ _ h m0 hm0)
      · exact gg sch0 [0, 6, 1, 2, 4] (p.b 40 c1 |>.a 49 3 1 (rows_build (c := intsC) (L := ([([] : List Int)] : List (List Int))) (vals := [.nils]) rfl ⟨⟨_, rfl, ⟨DLe.ints_nil, trivial⟩⟩, trivial⟩) |>.g (And.intro (And.intro (And.intro (Eq.refl 0) (by decide : 1 = ([([] : List Int)] : List (List Int)).length)) (oneR intsC ([([] : List Int)] : List (List Int)) (([([] : List Int)] : List (List Int)).length) 1 fun _ => ⟨rfl, rfl⟩)) (And.intro (by decide : 0 < ([([] : List Int)] : List (List Int)).length) (by decide : ([([] : List Int)] : List (List Int)).length ≤ LIM))) |>.t |>.g (by decide : (0 = 0 ∧ 1 = ([0] : List Int).length) ∧ 0 < ([0] : List Int).length ∧ ([0] : List Int).length ≤ LIM) |>.t) (hself _ _ h m0 hm0)
    · cases h
      exact el sch0 [6] [1, 3] (H0.b 28 c0 |>.a 60 3 9 (rows_build (c := consC) (L := ([(⟨kd, ([] : List Int), st, oth, lo, hi, rn, rl, spt⟩ : ConsD)] : List ConsD)) (vals := [.agg 9 (L1 [.i kd, .nils, .i st, .i oth, .i lo, .i hi, .ints rn, .i rl, .i spt])]) rfl ⟨⟨_, rfl, ⟨dle_refl, DLe.ints_nil, dle_refl, dle_refl, dle_refl, dle_refl, dle_refl, dle_refl, dle_refl, trivial⟩⟩, trivial⟩) |>.t |>.t) [1] (H0.g (Eq.refl 1)) [.agg 5 (L1 [.i cells_, .i symbols_, .nils, .nils, .sl 9 (([(⟨kd, ([] : List Int), st, oth, lo, hi, rn, rl, spt⟩ : ConsD)] : List ConsD).length) (rowE consC ([(⟨kd, ([] : List Int), st, oth, lo, hi, rn, rl, spt⟩ : ConsD)] : List ConsD))])] (DLe.aggL (l := [.i cells_, .i symbols_, .nils, .nils, .sl 9 (([(⟨kd, ([] : List Int), st, oth, lo, hi, rn, rl, spt⟩ : ConsD)] : List ConsD).length) (rowE consC ([(⟨kd, ([] : List Int), st, oth, lo, hi, rn, rl, spt⟩ : ConsD)] : List ConsD))]) (l' := [.i cells_, .i symbols_, .ints ([] : List Int), .sl 1 (([] : List (List Int)).length) (rowE intsC ([] : List (List Int))), .sl 9 (([(⟨kd, ([] : List Int), st, oth, lo, hi, rn, rl, spt⟩ : ConsD)] : List ConsD).length) (rowE consC ([(⟨kd, ([] : List Int), st, oth, lo, hi, rn, rl, spt⟩ : ConsD)] : List ConsD))]) rfl ⟨(DLe.refl _), (DLe.refl _), DLe.ints_nil, (DLe.sl_nil _ _), (DLe.refl _), trivial⟩)
   case l4 o2_2 o3 =>
    have h : lineQ_l4 n (lineQ_m cells_ symbols_ kd st oth lo hi rn rl spt n) cells_ symbols_ kd st oth lo hi rn rl spt o2_2 o3 = some r := h
    intro m0 hm0
    refine rd hm0 fun m0 hm0 => ?_
    unfold lineQ_l4 at h
    rcases bifSome h with ⟨c0, h⟩ | ⟨c0, h⟩
    · have p := H0.b 28 c0
      rcases bifSome h with ⟨c1, h⟩ | ⟨c1, h⟩
      · refine gz (stopAt 15 sch0) [0, 1, 2, 3, 5] (p.b 40 c1 |>.g (by decide : (0 = 0 ∧ 1 = ([1] : List Int).length) ∧ 0 < ([1] : List Int).length ∧ ([1] : List Int).length ≤ LIM)) [4] (H0.g (Eq.refl (([1] : List Int).length))) (atGC (bodyC Tryd.f18) 15 [m0]) (frm 63 [(0, .i cells_), (5, .ref 0 0), (6, .ref 1 0), (7, .ref 2 0), (9, .i 0), (10, .ints ([1] : List Int)), (26, .i cells_), (27, .i 0)]) (hp_lineQ_1 kd st oth lo hi rn rl spt cells_ symbols_ o2_2 o3) ?_
        exact gg sch0 [0, 8, 1, 2, 3, 6] (H0.a 49 5 1 (rows_build (c := intsC) (L := ([([1] : List Int)] : List (List Int))) (vals := [.ints ([1] : List Int)]) rfl ⟨⟨_, rfl, ⟨dle_refl, trivial⟩⟩, trivial⟩) |>.g (And.intro (And.intro (And.intro (Eq.refl 0) (by decide : 1 = ([([1] : List Int)] : List (List Int)).length)) (oneR intsC ([([1] : List Int)] : List (List Int)) (([([1] : List Int)] : List (List Int)).length) 1 fun _ => ⟨rfl, rfl⟩)) (And.intro (by decide : 0 < ([([1] : List Int)] : List (List Int)).length) (by decide : ([([1] : List Int)] : List (List Int)).length ≤ LIM))) |>.t |>.g (by decide : (0 = 0 ∧ 1 = ([0] : List Int).length) ∧ 0 < ([0] : List Int).length ∧ ([0] : List Int).length ≤ LIM) |>.t) (hself _ _ h m0 hm0)
      · exact gg sch0 [0, 7, 1, 2, 3, 5] (p.b 40 c1 |>.a 49 4 1 (rows_build (c := intsC) (L := ([([] : List Int)] : List (List Int))) (vals := [.nils]) rfl ⟨⟨_, rfl, ⟨DLe.ints_nil, trivial⟩⟩, trivial⟩) |>.g (And.intro (And.intro (And.intro (Eq.refl 0) (by decide : 1 = ([([] : List Int)] : List (List Int)).length)) (oneR intsC ([([] : List Int)] : List (List Int)) (([([] : List Int)] : List (List Int)).length) 1 fun _ => ⟨rfl, rfl⟩)) (And.intro (by decide : 0 < ([([] : List Int)] : List (List Int)).length) (by decide : ([([] : List Int)] : List (List Int)).length ≤ LIM))) |>.t |>.g (by decide : (0 = 0 ∧ 1 = ([0] : List Int).length) ∧ 0 < ([0] : List Int).length ∧ ([0] : List Int).length ≤ LIM) |>.t) (hself _ _ h m0 hm0)
    · obtain ⟨g0, h⟩ := guardSome h
      cases h
      exact el sch0 [6] [1, 3, 4] (H0.b 28 c0 |>.a 60 4 9 (rows_build (c := consC) (L := ([(⟨kd, ([] : List Int), st, oth, lo, hi, rn, rl, spt⟩ : ConsD)] : List ConsD)) (vals := [.agg 9 (L1 [.i kd, .nils, .i st, .i oth, .i lo, .i hi, .ints rn, .i rl, .i spt])]) rfl ⟨⟨_, rfl, ⟨dle_refl, DLe.ints_nil, dle_refl, dle_refl, dle_refl, dle_refl, dle_refl, dle_refl, dle_refl, trivial⟩⟩, trivial⟩) |>.t |>.t) [1, 2] (H0.g g0 |>.g (Eq.refl 1)) [.agg 5 (L1 [.i cells_, .i symbols_, .ints o3, .nils, .sl 9 (([(⟨kd, ([] : List Int), st, oth, lo, hi, rn, rl, spt⟩ : ConsD)] : List ConsD).length) (rowE consC ([(⟨kd, ([] : List Int), st, oth, lo, hi, rn, rl, spt⟩ : ConsD)] : List ConsD))])] (DLe.aggL (l := [.i cells_, .i symbols_, .ints o3, .nils, .sl 9 (([(⟨kd, ([] : List Int), st, oth, lo, hi, rn, rl, spt⟩ : ConsD)] : List ConsD).length) (rowE consC ([(⟨kd, ([] : List Int), st, oth, lo, hi, rn, rl, spt⟩ : ConsD)] : List ConsD))]) (l' := [.i cells_, .i symbols_, .ints o3, .sl 1 (([] : List (List Int)).length) (rowE intsC ([] : List (List Int))), .sl 9 (([(⟨kd, ([] : List Int), st, oth, lo, hi, rn, rl, spt⟩ : ConsD)] : List ConsD).length) (rowE consC ([(⟨kd, ([] : List Int), st, oth, lo, hi, rn, rl, spt⟩ : ConsD)] : List ConsD))]) rfl ⟨(DLe.refl _), (DLe.refl _), (DLe.refl _), (DLe.sl_nil _ _), (DLe.refl _), trivial⟩)
   case l5 x27 o0_1 o1 o3_3 o4 =>
    have h : lineQ_l5 n (lineQ_m cells_ symbols_ kd st oth lo hi rn rl spt n) cells_ symbols_ kd st oth lo hi rn rl spt x27 o0_1 o1 o3_3 o4 = some r := h
    intro m0 hm0
    refine rd hm0 fun m0 hm0 => ?_
    unfold lineQ_l5 at h
    rcases bifSome h with ⟨c0, h⟩ | ⟨c0, h⟩
    · have p := H0.b 28 c0
      rcases bifSome h with ⟨c1, h⟩ | ⟨c1, h⟩
      · obtain ⟨⟨g0, g1, g2⟩, h⟩ := guardSome h
        have p := p.b 31 c1 |>.w 34 g0 |>.g g1 |>.w 38 g2
        rcases bifSome h with ⟨c2, h⟩ | ⟨c2, h⟩
        · obtain ⟨g3, h⟩ := guardSome h
          obtain ⟨g4, h⟩ := guardSome h
          refine gz (stopAt 15 sch0) [0, 1, 2, 3, 4, 8] (p.b 40 c2 |>.w 43 g2 |>.g g3) [5] (H0.g g4) (atGC (bodyC Tryd.f18) 15 [m0]) (frm 63 [(0, .i cells_), (5, .ref 0 0), (6, .ref 2 0), (7, .ref 3 0), (9, .i x27), (10, .ints (([(x27 - 1)] : List Int) ++ ([(x27 + 1)] : List Int))), (26, .i cells_), (27, .i x27)]) (hp_lineQ_2 kd o0_1 st oth lo hi rn rl spt o1 cells_ symbols_ o3_3 o4) ?_
          obtain ⟨⟨g5, g6, g7, g8⟩, h⟩ := guardSome h
          exact gg sch0 [0, 9, 2, 3, 7] (H0.a 49 6 1 (rows_build (c := intsC) (L := ([([(x27 - 1)] : List Int) ++ ([(x27 + 1)] : List Int)] : List (List Int))) (vals := [.ints (([(x27 - 1)] : List Int) ++ ([(x27 + 1)] : List Int))]) rfl ⟨⟨_, rfl, ⟨dle_refl, trivial⟩⟩, trivial⟩) |>.g (And.intro (And.intro (And.intro (Eq.refl 0) (Eq.refl 1)) (oneR intsC ([([(x27 - 1)] : List Int) ++ ([(x27 + 1)] : List Int)] : List (List Int)) (([([(x27 - 1)] : List Int) ++ ([(x27 + 1)] : List Int)] : List (List Int)).length) 1 fun _ => ⟨rfl, rfl⟩)) (And.intro (And.intro (Eq.refl 0) g5) g6)) |>.a 50 7 1 (rows_app (enc := (encE intsC)) (L := o4) (L' := ([([(x27 - 1)] : List Int) ++ ([(x27 + 1)] : List Int)] : List (List Int))) rfl rfl fun _ _ _ _ => dle_refl) |>.t |>.g g7 |>.t |>.w 58 g8) (hself _ _ h m0 hm0)
        · refine gz (stopAt 15 sch0) [0, 1, 2, 3, 4, 6] (p.b 40 c2) [5] (H0.g (Eq.refl (([(x27 - 1)] : List Int).length))) (atGC (bodyC Tryd.f18) 15 [m0]) (frm 63 [(0, .i cells_), (5, .ref 0 0), (6, .ref 2 0), (7, .ref 3 0), (9, .i x27), (10, .ints ([(x27 - 1)] : List Int)), (26, .i cells_), (27, .i x27)]) (hp_lineQ_2 kd o0_1 st oth lo hi rn rl spt o1 cells_ symbols_ o3_3 o4) ?_
          obtain ⟨⟨g3, g4, g5, g6⟩, h⟩ := guardSome h
          exact gg sch0 [0, 9, 2, 3, 7] (H0.a 49 6 1 (rows_build (c := intsC) (L := ([([(x27 - 1)] : List Int)] : List (List Int))) (vals := [.ints ([(x27 - 1)] : List Int)]) rfl ⟨⟨_, rfl, ⟨dle_refl, trivial⟩⟩, trivial⟩) |>.g (And.intro (And.intro (And.intro (Eq.refl 0) (Eq.refl 1)) (oneR intsC ([([(x27 - 1)] : List Int)] : List (List Int)) (([([(x27 - 1)] : List Int)] : List (List Int)).length) 1 fun _ => ⟨rfl, rfl⟩)) (And.intro (And.intro (Eq.refl 0) g3) g4)) |>.a 50 7 1 (rows_app (enc := (encE intsC)) (L := o4) (L' := ([([(x27 - 1)] : List Int)] : List (List Int))) rfl rfl fun _ _ _ _ => dle_refl) |>.t |>.g g5 |>.t |>.w 58 g6) (hself _ _ h m0 hm0)
      · obtain ⟨g0, h⟩ := guardSome h
        have p := p.b 31 c1 |>.w 38 g0
        rcases bifSome h with ⟨c2, h⟩ | ⟨c2, h⟩
        · obtain ⟨g1, h⟩ := guardSome h
          refine gz (stopAt 15 sch0) [0, 1, 2, 3, 4, 6] (p.b 40 c2 |>.w 43 g0 |>.g g1) [5] (H0.g (Eq.refl (([(x27 + 1)] : List Int).length))) (atGC (bodyC Tryd.f18) 15 [m0]) (frm 63 [(0, .i cells_), (5, .ref 0 0), (6, .ref 2 0), (7, .ref 3 0), (9, .i x27), (10, .ints ([(x27 + 1)] : List Int)), (26, .i cells_), (27, .i x27)]) (hp_lineQ_2 kd o0_1 st oth lo hi rn rl spt o1 cells_ symbols_ o3_3 o4) ?_
          obtain ⟨⟨g2, g3, g4, g5⟩, h⟩ := guardSome h
          exact gg sch0 [0, 9, 2, 3, 7] (H0.a 49 6 1 (rows_build (c := intsC) (L := ([([(x27 + 1)] : List Int)] : List (List Int))) (vals := [.ints ([(x27 + 1)] : List Int)]) rfl ⟨⟨_, rfl, ⟨dle_refl, trivial⟩⟩, trivial⟩) |>.g (And.intro (And.intro (And.intro (Eq.refl 0) (Eq.refl 1)) (oneR intsC ([([(x27 + 1)] : List Int)] : List (List Int)) (([([(x27 + 1)] : List Int)] : List (List Int)).length) 1 fun _ => ⟨rfl, rfl⟩)) (And.intro (And.intro (Eq.refl 0) g2) g3)) |>.a 50 7 1 (rows_app (enc := (encE intsC)) (L := o4) (L' := ([([(x27 + 1)] : List Int)] : List (List Int))) rfl rfl fun _ _ _ _ => dle_refl) |>.t |>.g g4 |>.t |>.w 58 g5) (hself _ _ h m0 hm0)
        · obtain ⟨⟨g1, g2, g3⟩, h⟩ := guardSome h
          exact gg sch0 [0, 8, 2, 3, 6] (p.b 40 c2 |>.a 49 5 1 (rows_build (c := intsC) (L := ([([] : List Int)] : List (List Int))) (vals := [.nils]) rfl ⟨⟨_, rfl, ⟨DLe.ints_nil, trivial⟩⟩, trivial⟩) |>.g (And.intro (And.intro (And.intro (Eq.refl 0) (by decide : 1 = ([([] : List Int)] : List (List Int)).length)) (oneR intsC ([([] : List Int)] : List (List Int)) (([([] : List Int)] : List (List Int)).length) 1 fun _ => ⟨rfl, rfl⟩)) (And.intro (And.intro (Eq.refl 0) g1) g2)) |>.a 50 6 1 (rows_app (enc := (encE intsC)) (L := o4) (L' := ([([] : List Int)] : List (List Int))) rfl rfl fun _ _ _ _ => dle_refl) |>.t |>.g g3 |>.t |>.w 58 g0) (hself _ _ h m0 hm0)
    · obtain ⟨g0, h⟩ := guardSome h
      refine gz (stopAt 18 sch0) [0, 1, 2, 3, 4] (H0.b 28 c0) [1] (H0.g g0) (atGC (bodyC Tryd.f18) 18 []) (frm 63 [(5, .ref 0 0), (6, .ref 2 0), (7, .ref 3 0)]) (hp_lineQ_3 kd o1 st oth lo hi rn rl spt cells_ symbols_ o3_3 o4) ?_
      obtain ⟨g1, h⟩ := guardSome h
      cases h
      exact el sch0 [6] [2, 4, 5] (H0.a 60 5 9 (rows_build (c := consC) (L := ([(⟨kd, o1, st, oth, lo, hi, rn, rl, spt⟩ : ConsD)] : List ConsD)) (vals := [.agg 9 (L1 [.i kd, .ints o1, .i st, .i oth, .i lo, .i hi, .ints rn, .i rl, .i spt])]) rfl ⟨⟨_, rfl, ⟨dle_refl, dle_refl, dle_refl, dle_refl, dle_refl, dle_refl, dle_refl, dle_refl, dle_refl, trivial⟩⟩, trivial⟩) |>.t |>.t) [1, 2] (H0.g g1 |>.g (Eq.refl 1)) [.agg 5 (L1 [.i cells_, .i symbols_, .nils, .sl 1 o4.length (rowE intsC o4), .sl 9 (([(⟨kd, o1, st, oth, lo, hi, rn, rl, spt⟩ : ConsD)] : List ConsD).length) (rowE consC ([(⟨kd, o1, st, oth, lo, hi, rn, rl, spt⟩ : ConsD)] : List ConsD))])] (DLe.aggL (l := [.i cells_, .i symbols_, .nils, .sl 1 o4.length (rowE intsC o4), .sl 9 (([(⟨kd, o1, st, oth, lo, hi, rn, rl, spt⟩ : ConsD)] : List ConsD).length) (rowE consC ([(⟨kd, o1, st, oth, lo, hi, rn, rl, spt⟩ : ConsD)] : List ConsD))]) (l' := [.i cells_, .i symbols_, .ints ([] : List Int), .sl 1 o4.length (rowE intsC o4), .sl 9 (([(⟨kd, o1, st, oth, lo, hi, rn, rl, spt⟩ : ConsD)] : List ConsD).length) (rowE consC ([(⟨kd, o1, st, oth, lo, hi, rn, rl, spt⟩ : ConsD)] : List ConsD))]) rfl ⟨(DLe.refl _), (DLe.refl _), DLe.ints_nil, (DLe.refl _), (DLe.refl _), trivial⟩)
   case l6 x27 o0_1 o1 o3_2 o3_3 o4t2 o5 =>
    have h : lineQ_l6 n (lineQ_m cells_ symbols_ kd st oth lo hi rn rl spt n) cells_ symbols_ kd st oth lo hi rn rl spt x27 o0_1 o1 o3_2 o3_3 o4t2 o5 = some r := h
    intro m0 hm0
    refine rd hm0 fun m0 hm0 => ?_
    unfold lineQ_l6 at h
    rcases bifSome h with ⟨c0, h⟩ | ⟨c0, h⟩
    · have p := H0.b 28 c0
      rcases bifSome h with ⟨c1, h⟩ | ⟨c1, h⟩
      · obtain ⟨⟨g0, g1, g2⟩, h⟩ := guardSome h
        have p := p.b 31 c1 |>.w 34 g0 |>.g g1 |>.w 38 g2
        rcases bifSome h with ⟨c2, h⟩ | ⟨c2, h⟩
        · obtain ⟨g3, h⟩ := guardSome h
          obtain ⟨g4, h⟩ := guardSome h
          refine gz (stopAt 15 sch0) [0, 1, 2, 3, 4, 5, 9] (p.b 40 c2 |>.w 43 g2 |>.g g3) [6] (H0.g g4) (atGC (bodyC Tryd.f18) 15 [m0]) (frm 63 [(0, .i cells_), (5, .ref 0 0), (6, .ref 2 0), (7, .ref 3 0), (9, .i x27), (10, .ints (([(x27 - 1)] : List Int) ++ ([(x27 + 1)] : List Int))), (26, .i cells_), (27, .i x27)]) (hp_lineQ_4 kd o0_1 st oth lo hi rn rl spt o1 cells_ symbols_ o3_2 o3_3 o4t2 o5) ?_
          obtain ⟨⟨g5, g6, g7, g8⟩, h⟩ := guardSome h
          exact gg sch0 [0, 10, 2, 3, 4, 8] (H0.a 49 7 1 (rows_build (c := intsC) (L := ([([(x27 - 1)] : List Int) ++ ([(x27 + 1)] : List Int)] : List (List Int))) (vals := [.ints (([(x27 - 1)] : List Int) ++ ([(x27 + 1)] : List Int))]) rfl ⟨⟨_, rfl, ⟨dle_refl, trivial⟩⟩, trivial⟩) |>.g (And.intro (And.intro (And.intro (Eq.refl 0) (Eq.refl 1)) (oneR intsC ([([(x27 - 1)] : List Int) ++ ([(x27 + 1)] : List Int)] : List (List Int)) (([([(x27 - 1)] : List Int) ++ ([(x27 + 1)] : List Int)] : List (List Int)).length) 1 fun _ => ⟨rfl, rfl⟩)) (And.intro (And.intro (Eq.refl 0) g5) g6)) |>.a 50 8 1 (rows_app (enc := (encE intsC)) (L := o5) (L' := ([([(x27 - 1)] : List Int) ++ ([(x27 + 1)] : List Int)] : List (List Int))) rfl rfl fun _ _ _ _ => dle_refl) |>.t |>.g g7 |>.t |>.w 58 g8) (hself _ _ h m0 hm0)
        · refine gz (stopAt 15 sch0) [0, 1, 2, 3, 4, 5, 7] (p.b 40 c2) [6] (H0.g (Eq.refl (([(x27 - 1)] : List Int).length))) (atGC (bodyC Tryd.f18) 15 [m0]) (frm 63 [(0, .i cells_), (5, .ref 0 0), (6, .ref 2 0), (7, .ref 3 0), (9, .i x27), (10, .ints ([(x27 - 1)] : List Int)), (26, .i cells_), (27, .i x27)]) (hp_lineQ_4 kd o0_1 st oth lo hi rn rl spt o1 cells_ symbols_ o3_2 o3_3 o4t2 o5) ?_
          obtain ⟨⟨g3, g4, g5, g6⟩, h⟩ := guardSome h
          exact gg sch0 [0, 10, 2, 3, 4, 8] (H0.a 49 7 1 (rows_build (c := intsC) (L := ([([(x27 - 1)] : List Int)] : List (List Int))) (vals := [.ints ([(x27 - 1)] : List Int)]) rfl ⟨⟨_, rfl, ⟨dle_refl, trivial⟩⟩, trivial⟩) |>.g (And.intro (And.intro (And.intro (Eq.refl 0) (Eq.refl 1)) (oneR intsC ([([(x27 - 1)] : List Int)] : List (List Int)) (([([(x27 - 1)] : List Int)] : List (List Int)).length) 1 fun _ => ⟨rfl, rfl⟩)) (And.intro (And.intro (Eq.refl 0) g3) g4)) |>.a 50 8 1 (rows_app (enc := (encE intsC)) (L := o5) (L' := ([([(x27 - 1)] : List Int)] : List (List Int))) rfl rfl fun _ _ _ _ => dle_refl) |>.t |>.g g5 |>.t |>.w 58 g6) (hself _ _ h m0 hm0)
      · obtain ⟨g0, h⟩ := guardSome h
        have p := p.b 31 c1 |>.w 38 g0
        rcases bifSome h with ⟨c2, h⟩ | ⟨c2, h⟩
        · obtain ⟨g1, h⟩ := guardSome h
          refine gz (stopAt 15 sch0) [0, 1, 2, 3, 4, 5, 7] (p.b 40 c2 |>.w 43 g0 |>.g g1) [6] (H0.g (Eq.refl (([(x27 + 1)] : List Int).length))) (atGC (bodyC Tryd.f18) 15 [m0]) (frm 63 [(0, .i cells_), (5, .ref 0 0), (6, .ref 2 0), (7, .ref 3 0), (9, .i x27), (10, .ints ([(x27 + 1)] : List Int)), (26, .i cells_), (27, .i x27)]) (hp_lineQ_4 kd o0_1 st oth lo hi rn rl spt o1 cells_ symbols_ o3_2 o3_3 o4t2 o5) ?_
          obtain ⟨⟨g2, g3, g4, g5⟩, h⟩ := guardSome h
          exact gg sch0 [0, 10, 2, 3, 4, 8] (H0.a 49 7 1 (rows_build (c := intsC) (L := ([([(x27 + 1)] : List Int)] : List (List Int))) (vals := [.ints ([(x27 + 1)] : List Int)]) rfl ⟨⟨_, rfl, ⟨dle_refl, trivial⟩⟩, trivial⟩) |>.g (And.intro (And.intro (And.intro (Eq.refl 0) (Eq.refl 1)) (oneR intsC ([([(x27 + 1)] : List Int)] : List (List Int)) (([([(x27 + 1)] : List Int)] : List (List Int)).length) 1 fun _ => ⟨rfl, rfl⟩)) (And.intro (And.intro (Eq.refl 0) g2) g3)) |>.a 50 8 1 (rows_app (enc := (encE intsC)) (L := o5) (L' := ([([(x27 + 1)] : List Int)] : List (List Int))) rfl rfl fun _ _ _ _ => dle_refl) |>.t |>.g g4 |>.t |>.w 58 g5) (hself _ _ h m0 hm0)
        · obtain ⟨⟨g1, g2, g3⟩, h⟩ := guardSome h
          exact gg sch0 [0, 9, 2, 3, 4, 7] (p.b 40 c2 |>.a 49 6 1 (rows_build (c := intsC) (L := ([([] : List Int)] : List (List Int))) (vals := [.nils]) rfl ⟨⟨_, rfl, ⟨DLe.ints_nil, trivial⟩⟩, trivial⟩) |>.g (And.intro (And.intro (And.intro (Eq.refl 0) (by decide : 1 = ([([] : List Int)] : List (List Int)).length)) (oneR intsC ([([] : List Int)] : List (List Int)) (([([] : List Int)] : List (List Int)).length) 1 fun _ => ⟨rfl, rfl⟩)) (And.intro (And.intro (Eq.refl 0) g1) g2)) |>.a 50 7 1 (rows_app (enc := (encE intsC)) (L := o5) (L' := ([([] : List Int)] : List (List Int))) rfl rfl fun _ _ _ _ => dle_refl) |>.t |>.g g3 |>.t |>.w 58 g0) (hself _ _ h m0 hm0)
    · obtain ⟨g0, h⟩ := guardSome h
      refine gz (stopAt 18 sch0) [0, 1, 2, 3, 4, 5] (H0.b 28 c0) [1] (H0.g g0) (atGC (bodyC Tryd.f18) 18 []) (frm 63 [(5, .ref 0 0), (6, .ref 2 0), (7, .ref 3 0)]) (hp_lineQ_5 kd o1 st oth lo hi rn rl spt cells_ symbols_ o3_2 o3_3 o4t2 o5) ?_
      obtain ⟨⟨g1, g2⟩, h⟩ := guardSome h
      cases h
      exact ez sch0 [6] [2, 4, 5, 6] (H0.a 60 6 9 (rows_build (c := consC) (L := ([(⟨kd, o1, st, oth, lo, hi, rn, rl, spt⟩ : ConsD)] : List ConsD)) (vals := [.agg 9 (L1 [.i kd, .ints o1, .i st, .i oth, .i lo, .i hi, .ints rn, .i rl, .i spt])]) rfl ⟨⟨_, rfl, ⟨dle_refl, dle_refl, dle_refl, dle_refl, dle_refl, dle_refl, dle_refl, dle_refl, dle_refl, trivial⟩⟩, trivial⟩) |>.t |>.t) [1, 2, 3] (H0.g g1 |>.g g2 |>.g (Eq.refl 1))
theorem lineQ_ok {n : Nat} {cells_ symbols_ kd st oth lo hi : Int} {rn : List Int} {rl spt : Int} {r : ProbD} (h : lineQ n cells_ symbols_ kd st oth lo hi rn rl spt = some r) : ES Tryd.prog GG 18 [.i cells_, .i symbols_, .agg 9 (L1 [.i kd, .nils, .i st, .i oth, .i lo, .i hi, .ints rn, .i rl, .i spt])] [] (.agg 5 (L1 (probC r))) [] true := by
  refine ot Tryd.func18 fun B N => ?_
  have hself := lineQ_all B N cells_ symbols_ kd st oth lo hi rn rl spt n
  unfold lineQ at h
  unfold lineQ_l0 at h
  exact gg sch0 [0, 1, 2] (H0.t) (en n (hself _ _ h n (Nat.le_refl _)))
end Go.Proofs.YtekkngkphejfcaaDoor
namespace Go.Proofs.YtekkngkphejfcaaDoor
open Go.RowKit
set_option maxRecDepth 100000
set_option maxHeartbeats 40000000
def backM_l0 (n : Nat) (s_ : List Int) : Option Unit :=
  some ()
def backM (n : Nat) (s_ : List Int) : Option Unit := backM_l0 n s_
theorem backM_ok {n : Nat} (s_ : List Int) {r : Unit} (h : backM n s_ = some r) : ES Tryd.prog GG 61 [.ints s_] [] (.fn 73 1 (L1 [.ref 0 0])) [some (.cells [.ints s_])] true := by
  refine ot Tryd.func61 fun B N => ?_
  unfold backM at h
  unfold backM_l0 at h
  cases h
  exact ee sch0 [2] [0] H0
inductive backPt where
  | l1 (x3 : Int)
def back_l1 (n : Nat) (self : backPt → Option (List (Int × Int))) (s_ : List Int) (x3 : Int) : Option (List (Int × Int)) :=
  bif (decide (x3 ≥ 0)) then
   if 0 ≤ x3 ∧ x3 < (s_.length : Int) then
    Option.map (fun l => (x3, s_.getD ((x3).toNat) 0) :: l) (
     if R64 (x3 - 1) then
      self (.l1 (x3 - 1))
     else none)
   else none
  else
   some []
def back_l0 (n : Nat) (self : backPt → Option (List (Int × Int))) (s_ : List Int) : Option (List (Int × Int)) :=
  if R64 ((s_.length : Int) - 1) then
   self (.l1 ((s_.length : Int) - 1))
  else none
def back_m (s_ : List Int) : Nat → backPt → Option (List (Int × Int))
  | 0, _ => none
  | n + 1, .l1 x3 => back_l1 n (back_m s_ n) s_ x3
def back (n : Nat) (s_ : List Int) : Option (List (Int × Int)) := back_l0 n (back_m s_ n) s_
/-- What the points stand for. -/
def back_at (C : ItC Tryd.prog GG) (n : Nat) (s_ : List Int) (r : List (Int × Int)) : backPt → Prop
  | .l1 x3 => ∀ m0 : Nat, n ≤ m0 → ∀ i : Nat, i ≤ C.encs.length → C.encs.drop i = r.map encII → TrG Tryd.prog GG Fence.wide none 1 (C.Y 1 i) (C.Q 1) (toN m0 (atNC (bodyC Tryd.f73) 0 [])) ⟨frm 19 [(0, .yl C.l), (1, .ref 0 0), (3, .i x3)], [some (.cells [.ints s_])]⟩
theorem back_p1 (C : ItC Tryd.prog GG) (n : Nat) (self : backPt → Option (List (Int × Int))) (s_ : List Int) (hself : ∀ pt r, self pt = some r → back_at C n s_ r pt) (x3 : Int) (r : List (Int × Int)) (h : back_l1 n self s_ x3 = some r) : back_at C (n + 1) s_ r (.l1 x3) := by
  intro m0 hm0
  intro i hi hd
  refine rd hm0 fun m0 hm0 => ?_
  unfold back_l1 at h
  rcases bifSome h with ⟨c0, h⟩ | ⟨c0, h⟩
  · refine gs (stopAt 3 sch0) [0] (H0.b 8 c0) (atGC (bodyC Tryd.f73) 3 [m0]) (frm 19 [(0, .yl C.l), (1, .ref 0 0), (3, .i x3)]) [some (.cells [.ints s_])] ?_
    obtain ⟨g0, h⟩ := guardSome h
    obtain ⟨r, h2, rfl⟩ := mapSome h
    clear h
    have h := h2
    clear h2
    obtain ⟨hx, hi, hd⟩ := dropCons hd
    refine TrG.y (ops := regF Tryd.f73 3) HC.x 6 [0, 1, 3, 18] [0] (H0.g g0) (x := encII (x3, s_.getD ((x3).toNat) 0)) (frm 19 [(0, .yl C.l), (1, .ref 0 0), (3, .i x3), (18, .bool false)]) [some (.cells [.ints s_])] (frm 19 [(0, .yl C.l), (1, .ref 0 0), (3, .i x3), (18, .bool true)]) [some (.cells [.ints s_])] (by kernel_rfl) (by kernel_rfl) (by kernel_rfl) hx (by kernel_rfl) ?_ ?_
    · generalize i + 1 = i at hi hd ⊢
      obtain ⟨g1, h⟩ := guardSome h
      exact gg sch0 [0] (H0.w 10 g1) (hself _ _ h m0 hm0 i hi hd)
    · exact TrI.e HC.x sch0 6 H0 (by kernel_rfl) (.inr rfl)
  · cases h
    exact TrI.e HC.x sch0 10 (H0.b 8 c0) (by kernel_rfl) (.inl (by rw [dropNil hi hd]))
theorem back_all (C : ItC Tryd.prog GG) (s_ : List Int) : ∀ (n : Nat) (pt : backPt) (r : List (Int × Int)), back_m s_ n pt = some r → back_at C n s_ r pt
  | 0, _, _, h => by cases h
  | n + 1, .l1 x3, r, h => back_p1 C n (back_m s_ n) s_ (back_all C s_ n) x3 r h
theorem back_it {n : Nat} (s_ : List Int) {r : List (Int × Int)} (h : back n s_ = some r) (C : ItC Tryd.prog GG) (hC : C.encs = r.map encII) : TrG Tryd.prog GG Fence.wide none 1 (C.Y 1 0) (C.Q 1) [.code (bodyC Tryd.f73)] ⟨frm 19 [(0, .yl C.l), (1, .ref 0 0)], [some (.cells [.ints s_])]⟩ := by
  suffices H : ∀ i : Nat, i ≤ C.encs.length → C.encs.drop i = r.map encII → TrG Tryd.prog GG Fence.wide none 1 (C.Y 1 i) (C.Q 1) [.code (bodyC Tryd.f73)] ⟨frm 19 [(0, .yl C.l), (1, .ref 0 0)], [some (.cells [.ints s_])]⟩ from H 0 (Nat.zero_le _) (by rw [List.drop_zero]; exact hC)
  intro i hi hd
  have hself := back_all C s_ n
  unfold back at h
  generalize back_m s_ n = self at h hself
  unfold back_l0 at h
  obtain ⟨g0, h⟩ := guardSome h
  exact gg sch0 [0] (H0.w 6 g0) (en n (hself _ _ h n (Nat.le_refl _) i hi hd))
theorem backM_iter {n : Nat} {s_ : List Int} {r : List (Int × Int)} (h : back n s_ = some r) (H : DH) : ES Tryd.prog GG 61 [.ints s_] H (.it H.length) (H ++ [some (.iter (r.map encII))]) true := by
  refine ES.iterN (c := L1 [.ref 0 0]) (h0 := [some (.cells [.ints s_])]) (fn := Tryd.f73) (backM_ok (n := 0) s_ (r := ()) rfl) (by kernel_rfl) Tryd.func73 (by kernel_rfl) (by kernel_rfl) (by kernel_rfl) (fun C hC => ?_) H
  have e : DV.yl C.l :: (List.range 1).map (L1 [.ref 0 0]) ++ List.replicate (Tryd.f73.ntmps - (1 + 1)) .any = frm 19 [(0, .yl C.l), (1, .ref 0 0)] := by kernel_rfl
  rw [e]
  exact back_it s_ h C hC
end Go.Proofs.YtekkngkphejfcaaDoor
namespace Go.Proofs.YtekkngkphejfcaaDoor
open Go.RowKit
set_option maxRecDepth 100000
set_option maxHeartbeats 40000000
def reachM_l0 (n : Nat) (g_ : List (List Int)) (in_ : List Bool) (start : Int) : Option Unit :=
  some ()
def reachM (n : Nat) (g_ : List (List Int)) (in_ : List Bool) (start : Int) : Option Unit := reachM_l0 n g_ in_ start
theorem reachM_ok {n : Nat} (g_ : List (List Int)) (in_ : List Bool) (start : Int) {r : Unit} (h : reachM n g_ in_ start = some r) : ES Tryd.prog GG 80 [.sl 1 g_.length (rowE intsC g_), .bools in_, .i start] [] (.fn 82 3 (L1 [.ref 0 0, .ref 1 0, .ref 2 0])) [some (.cells [.sl 1 g_.length (rowE intsC g_)]), some (.cells [.i start]), some (.cells [.bools in_])] true := by
  refine ot Tryd.func80 fun B N => ?_
  unfold reachM at h
  unfold reachM_l0 at h
  cases h
  exact ee sch0 [6] [0, 2, 1] H0
theorem s_reach_6 : SOk (regF Tryd.f82 6) [] (List.range 8) [] := by unfold SOk; kernel_rfl
def sch_reach : Sch := fun i => match i with
  | 6 => .ord [] (List.range 8) []
  | _ => .no
def hp_reach_0 (g : List (List Int)) (start : Int) (inn o3 : List Bool) (o4 : List Int) : DH := [some (.cells [.sl 1 g.length (rowE intsC g)]), some (.cells [.i start]), some (.cells [.bools inn]), some (.bools o3), some (.ints o4)]
inductive reachPt where
  | l1 (x6 : Nat) (o3 : List Bool) (o4 : List Int)
  | l2 (x6 : Nat) (x33 : List Int) (x34 x35 : Int) (o3 : List Bool) (o4 : List Int)
  | l3 (o3 : List Bool)
def reach_l1 (n : Nat) (self : reachPt → Option (List Int)) (g : List (List Int)) (start : Int) (inn : List Bool) (x6 : Nat) (o3 : List Bool) (o4 : List Int) : Option (List Int) :=
  bif (decide ((x6 : Int) > 0)) then
   if ((0 : Int) ≤ 0 ∧ 0 < (x6 : Int)) ∧ 0 + 0 < o4.length then
    Option.map (fun l => (o4.getD (0 + 0) 0) :: l) (
     if ((0 : Int) ≤ 0 ∧ 0 < (x6 : Int)) ∧ 0 + 0 < o4.length ∧ (0 ≤ (o4.getD (0 + 0) 0) ∧ (o4.getD (0 + 0) 0) < (g.length : Int)) then
      self (.l2 x6 (g.getD ((o4.getD (0 + 0) 0).toNat) []) (((g.getD ((o4.getD (0 + 0) 0).toNat) []).length : Nat) : Int) 0 o3 o4)
     else none)
   else none
  else
   some []
def reach_l2 (n : Nat) (self : reachPt → Option (List Int)) (g : List (List Int)) (start : Int) (inn : List Bool) (x6 : Nat) (x33 : List Int) (x34 x35 : Int) (o3 : List Bool) (o4 : List Int) : Option (List Int) :=
  bif (decide (x35 < x34)) then
   if (0 ≤ x35 ∧ x35 < (x33.length : Int)) ∧ (0 ≤ (x33.getD ((x35).toNat) 0) ∧ (x33.getD ((x35).toNat) 0) < (inn.length : Int)) then
    bif (inn.getD ((x33.getD ((x35).toNat) 0).toNat) false) then
     if (0 ≤ (x33.getD ((x35).toNat) 0) ∧ (x33.getD ((x35).toNat) 0) < (g.length : Int)) ∧ 0 + ((x33.getD ((x35).toNat) 0).toNat) < o3.length then
      bif (!(o3.getD (0 + ((x33.getD ((x35).toNat) 0).toNat)) false)) then
       if ((0 = 0 ∧ 1 = ([x33.getD ((x35).toNat) 0] : List Int).length) ∧ (0 = 0 ∧ x6 = o4.length) ∧ o4.length + ([x33.getD ((x35).toNat) 0] : List Int).length ≤ LIM) ∧ R64 (x35 + 1) then
        self (.l2 (o4.length + ([x33.getD ((x35).toNat) 0] : List Int).length) x33 x34 (x35 + 1) (o3.set (0 + ((x33.getD ((x35).toNat) 0).toNat)) true) (o4 ++ ([x33.getD ((x35).toNat) 0] : List Int)))
       else none
      else
       if R64 (x35 + 1) then
        self (.l2 x6 x33 x34 (x35 + 1) o3 o4)
       else none
     else none
    else
     if R64 (x35 + 1) then
      self (.l2 x6 x33 x34 (x35 + 1) o3 o4)
     else none
   else none
  else
   bif ((x6 - 1) == 0) then
    if (0 : Int) ≤ 1 ∧ (1 : Int) ≤ (x6 : Int) ∧ (x6 : Int) ≤ (x6 : Int) then
     self (.l3 o3)
    else none
   else
    if (0 : Int) ≤ 1 ∧ (1 : Int) ≤ (x6 : Int) ∧ (x6 : Int) ≤ (x6 : Int) then
     if 1 ≤ o4.length then
      self (.l1 (x6 - 1) o3 (o4.drop 1))
     else none
    else none
def reach_l3 (n : Nat) (self : reachPt → Option (List Int)) (g : List (List Int)) (start : Int) (inn : List Bool) (o3 : List Bool) : Option (List Int) :=
  some []
def reach_l0 (n : Nat) (self : reachPt → Option (List Int)) (g : List (List Int)) (start : Int) (inn : List Bool) : Option (List Int) :=
  if (((g.length : Int) : Int) = (g.length : Int) ∧ 0 ≤ (g.length : Int) ∧ ((g.length : Int) : Int) ≤ 1000000000000) ∧ (0 ≤ start ∧ start < (g.length : Int)) ∧ 0 + ((start).toNat) < (List.replicate g.length false).length then
   self (.l1 1 ((List.replicate g.length false).set (0 + ((start).toNat)) true) ([start] : List Int))
  else none
def reach_m (g : List (List Int)) (start : Int) (inn : List Bool) : Nat → reachPt → Option (List Int)
  | 0, _ => none
  | n + 1, .l1 x6 o3 o4 => reach_l1 n (reach_m g start inn n) g start inn x6 o3 o4
  | n + 1, .l2 x6 x33 x34 x35 o3 o4 => reach_l2 n (reach_m g start inn n) g start inn x6 x33 x34 x35 o3 o4
  | n + 1, .l3 o3 => reach_l3 n (reach_m g start inn n) g start inn o3
def reach (n : Nat) (g : List (List Int)) (start : Int) (inn : List Bool) : Option (List Int) := reach_l0 n (reach_m g start inn n) g start inn
/-- What the points stand for. -/
def reach_at (C : ItC Tryd.prog GG) (n : Nat) (g : List (List Int)) (start : Int) (inn : List Bool) (r : List Int) : reachPt → Prop
  | .l1 x6 o3 o4 => ∀ m0 : Nat, n ≤ m0 → ∀ i : Nat, i ≤ C.encs.length → C.encs.drop i = r.map encI → TrG Tryd.prog GG Fence.wide none 3 (C.Y 3 i) (C.Q 3) (toN m0 (atNC (bodyC Tryd.f82) 0 [])) ⟨frm 58 [(0, .yl C.l), (1, .ref 0 0), (3, .ref 2 0), (5, .msl 3 1 0 g.length), (6, .msl 4 1 0 x6)], [some (.cells [.sl 1 g.length (rowE intsC g)]), some (.cells [.i start]), some (.cells [.bools inn]), some (.bools o3), some (.ints o4)]⟩
  | .l2 x6 x33 x34 x35 o3 o4 => ∀ m0 m1 : Nat, n ≤ m0 → n ≤ m1 → ∀ i : Nat, i ≤ C.encs.length → C.encs.drop i = r.map encI → TrG Tryd.prog GG Fence.wide none 3 (C.Y 3 i) (C.Q 3) (toN m1 (atNC (bodyC Tryd.f82) 2 [m0])) ⟨frm 58 [(0, .yl C.l), (1, .ref 0 0), (3, .ref 2 0), (5, .msl 3 1 0 g.length), (6, .msl 4 1 0 x6), (33, .ints x33), (34, .i x34), (35, .i x35)], [some (.cells [.sl 1 g.length (rowE intsC g)]), some (.cells [.i start]), some (.cells [.bools inn]), some (.bools o3), some (.ints o4)]⟩
  | .l3 o3 => ∀ m0 : Nat, n ≤ m0 → ∀ i : Nat, i ≤ C.encs.length → C.encs.drop i = r.map encI → TrG Tryd.prog GG Fence.wide none 3 (C.Y 3 i) (C.Q 3) (toN m0 (atNC (bodyC Tryd.f82) 0 [])) ⟨frm 58 [(0, .yl C.l), (1, .ref 0 0), (3, .ref 2 0), (5, .msl 3 1 0 g.length), (6, .ints ([] : List Int))], [some (.cells [.sl 1 g.length (rowE intsC g)]), some (.cells [.i start]), some (.cells [.bools inn]), some (.bools o3)]⟩
theorem reach_p1 (C : ItC Tryd.prog GG) (n : Nat) (self : reachPt → Option (List Int)) (g : List (List Int)) (start : Int) (inn : List Bool) (hself : ∀ pt r, self pt = some r → reach_at C n g start inn r pt) (x6 : Nat) (o3 : List Bool) (o4 : List Int) (r : List Int) (h : reach_l1 n self g start inn x6 o3 o4 = some r) : reach_at C (n + 1) g start inn r (.l1 x6 o3 o4) := by
  intro m0 hm0
  intro i hi hd
  refine rd hm0 fun m0 hm0 => ?_
  unfold reach_l1 at h
  rcases bifSome h with ⟨c0, h⟩ | ⟨c0, h⟩
  · refine gs (stopAt 5 sch_reach) [0, 1, 2, 3, 4] (H0.b 19 c0) (atGC (bodyC Tryd.f82) 5 [m0]) (frm 58 [(0, .yl C.l), (1, .ref 0 0), (3, .ref 2 0), (5, .msl 3 1 0 g.length), (6, .msl 4 1 0 x6)]) (hp_reach_0 g start inn o3 o4) ?_
    obtain ⟨⟨g0, g1⟩, h⟩ := guardSome h
    obtain ⟨r, h2, rfl⟩ := mapSome h
    clear h
    have h := h2
    clear h2
    obtain ⟨hx, hi, hd⟩ := dropCons hd
    refine TrG.y (ops := regF Tryd.f82 5) HC.x 4 [0, 1, 3, 5, 6, 27] [0, 1, 2, 3, 4] (H0.g g0 |>.g g1) (x := encI (o4.getD (0 + 0) 0)) (frm 58 [(0, .yl C.l), (1, .ref 0 0), (3, .ref 2 0), (5, .msl 3 1 0 g.length), (6, .msl 4 1 0 x6), (27, .bool false)]) (hp_reach_0 g start inn o3 o4) (frm 58 [(0, .yl C.l), (1, .ref 0 0), (3, .ref 2 0), (5, .msl 3 1 0 g.length), (6, .msl 4 1 0 x6), (27, .bool true)]) (hp_reach_0 g start inn o3 o4) (by kernel_rfl) (by kernel_rfl) (by kernel_rfl) hx (by kernel_rfl) ?_ ?_
    · generalize i + 1 = i at hi hd ⊢
      obtain ⟨⟨g2, g3, g4⟩, h⟩ := guardSome h
      exact gg sch_reach [0, 1, 2, 3, 4] (H0.g s_reach_6 |>.g g2 |>.g g3 |>.g g4) (en n (hself _ _ h m0 n hm0 (Nat.le_refl _) i hi hd))
    · exact TrI.e HC.x sch_reach 6 H0 (by kernel_rfl) (.inr rfl)
  · cases h
    exact TrI.e HC.x sch_reach 10 (H0.b 19 c0) (by kernel_rfl) (.inl (by rw [dropNil hi hd]))
theorem reach_p2 (C : ItC Tryd.prog GG) (n : Nat) (self : reachPt → Option (List Int)) (g : List (List Int)) (start : Int) (inn : List Bool) (hself : ∀ pt r, self pt = some r → reach_at C n g start inn r pt) (x6 : Nat) (x33 : List Int) (x34 x35 : Int) (o3 : List Bool) (o4 : List Int) (r : List Int) (h : reach_l2 n self g start inn x6 x33 x34 x35 o3 o4 = some r) : reach_at C (n + 1) g start inn r (.l2 x6 x33 x34 x35 o3 o4) := by
  intro m0 m1 hm0 hm1
  intro i hi hd
  have hm0 := Nat.le_of_succ_le hm0
  refine rd hm1 fun m1 hm1 => ?_
  unfold reach_l2 at h
  rcases bifSome h with ⟨c0, h⟩ | ⟨c0, h⟩
  · obtain ⟨⟨g0, g1⟩, h⟩ := guardSome h
    have p := H0.b 36 c0 |>.g g0 |>.g g1
    rcases bifSome h with ⟨c1, h⟩ | ⟨c1, h⟩
    · obtain ⟨⟨g2, g3⟩, h⟩ := guardSome h
      have p := p.b 42 c1 |>.g g2 |>.g g3
      rcases bifSome h with ⟨c2, h⟩ | ⟨c2, h⟩
      · obtain ⟨⟨g4, g5⟩, h⟩ := guardSome h
        exact gg sch_reach [0, 1, 2, 3, 6] (p.b 48 c2 |>.g g2 |>.g g3 |>.g g4 |>.w 57 g5) (hself _ _ h m0 m1 hm0 hm1 i hi hd)
      · obtain ⟨g4, h⟩ := guardSome h
        exact gg sch_reach [0, 1, 2, 3, 4] (p.b 48 c2 |>.w 57 g4) (hself _ _ h m0 m1 hm0 hm1 i hi hd)
    · obtain ⟨g2, h⟩ := guardSome h
      exact gg sch_reach [0, 1, 2, 3, 4] (p.b 42 c1 |>.w 57 g2) (hself _ _ h m0 m1 hm0 hm1 i hi hd)
  · have p := H0.b 36 c0
    rcases bifSome h with ⟨c1, h⟩ | ⟨c1, h⟩
    · obtain ⟨g0, h⟩ := guardSome h
      exact gg sch_reach [0, 1, 2, 3] (p.g g0 |>.o 21 (DLe.mse_nil (k := 4) (m := 1) (o := 1) (eq_of_beq c1))) (hself _ _ h m0 hm0 i hi hd)
    · obtain ⟨g0, h⟩ := guardSome h
      obtain ⟨g1, h⟩ := guardSome h
      refine gs sch_reach [0, 1, 2, 3, 4] (p.g g0 |>.o 21 (DLe.mse_msl (k := 4) (m := 1) (o := 1) (pos_of_bne c1) rfl)) (toN m0 (atNC (bodyC Tryd.f82) 0 [])) (frm 58 [(0, .yl C.l), (1, .ref 0 0), (3, .ref 2 0), (5, .msl 3 1 0 g.length), (6, .msl 4 1 1 (x6 - 1))]) (hp_reach_0 g start inn o3 o4) ?_
      refine TrK.le (SLe.rootE 4 1 ⟨frm 58 [(0, .yl C.l), (1, .ref 0 0), (3, .ref 2 0), (5, .msl 3 1 0 g.length), (6, .msl 5 1 0 (x6 - 1))], [some (.cells [.sl 1 g.length (rowE intsC g)]), some (.cells [.i start]), some (.cells [.bools inn]), some (.bools o3), none, some (.ints (o4.drop 1))]⟩ [1 ≤ o4.length] (by kernel_rfl) ⟨g1, trivial⟩) (by kernel_rfl) ?_
      refine TrK.le (SLe.compE [0, 1, 2, 3, 5] (by kernel_rfl)) (by kernel_rfl) ?_
      exact hself _ _ h m0 hm0 i hi hd
theorem reach_p3 (C : ItC Tryd.prog GG) (n : Nat) (self : reachPt → Option (List Int)) (g : List (List Int)) (start : Int) (inn : List Bool) (hself : ∀ pt r, self pt = some r → reach_at C n g start inn r pt) (o3 : List Bool) (r : List Int) (h : reach_l3 n self g start inn o3 = some r) : reach_at C (n + 1) g start inn r (.l3 o3) := by
  intro m0 hm0
  intro i hi hd
  refine rd hm0 fun m0 hm0 => ?_
  unfold reach_l3 at h
  cases h
  exact TrI.e HC.x sch_reach 10 H0 (by kernel_rfl) (.inl (by rw [dropNil hi hd]))
theorem reach_all (C : ItC Tryd.prog GG) (g : List (List Int)) (start : Int) (inn : List Bool) : ∀ (n : Nat) (pt : reachPt) (r : List Int), reach_m g start inn n pt = some r → reach_at C n g start inn r pt
  | 0, _, _, h => by cases h
  | n + 1, .l1 x6 o3 o4, r, h => reach_p1 C n (reach_m g start inn n) g start inn (reach_all C g start inn n) x6 o3 o4 r h
  | n + 1, .l2 x6 x33 x34 x35 o3 o4, r, h => reach_p2 C n (reach_m g start inn n) g start inn (reach_all C g start inn n) x6 x33 x34 x35 o3 o4 r h
  | n + 1, .l3 o3, r, h => reach_p3 C n (reach_m g start inn n) g start inn (reach_all C g start inn n) o3 r h
theorem reach_it {n : Nat} (g : List (List Int)) (start : Int) (inn : List Bool) {r : List Int} (h : reach n g start inn = some r) (C : ItC Tryd.prog GG) (hC : C.encs = r.map encI) : TrG Tryd.prog GG Fence.wide none 3 (C.Y 3 0) (C.Q 3) [.code (bodyC Tryd.f82)] ⟨frm 58 [(0, .yl C.l), (1, .ref 0 0), (2, .ref 1 0), (3, .ref 2 0)], [some (.cells [.sl 1 g.length (rowE intsC g)]), some (.cells [.i start]), some (.cells [.bools inn])]⟩ := by
  suffices H : ∀ i : Nat, i ≤ C.encs.length → C.encs.drop i = r.map encI → TrG Tryd.prog GG Fence.wide none 3 (C.Y 3 i) (C.Q 3) [.code (bodyC Tryd.f82)] ⟨frm 58 [(0, .yl C.l), (1, .ref 0 0), (2, .ref 1 0), (3, .ref 2 0)], [some (.cells [.sl 1 g.length (rowE intsC g)]), some (.cells [.i start]), some (.cells [.bools inn])]⟩ from H 0 (Nat.zero_le _) (by rw [List.drop_zero]; exact hC)
  intro i hi hd
  have hself := reach_all C g start inn n
  unfold reach at h
  generalize reach_m g start inn n = self at h hself
  unfold reach_l0 at h
  obtain ⟨⟨g0, g1, g2⟩, h⟩ := guardSome h
  exact gg sch_reach [0, 1, 2, 3, 4] (H0.g g0 |>.g g1 |>.g g2) (en n (hself _ _ h n (Nat.le_refl _) i hi hd))
theorem reachM_iter {n : Nat} {g_ : List (List Int)} {in_ : List Bool} {start : Int} {r : List Int} (h : reach n g_ start in_ = some r) (H : DH) : ES Tryd.prog GG 80 [.sl 1 g_.length (rowE intsC g_), .bools in_, .i start] H (.it H.length) (H ++ [some (.iter (r.map encI))]) true := by
  refine ES.iterN (c := L1 [.ref 0 0, .ref 1 0, .ref 2 0]) (h0 := [some (.cells [.sl 1 g_.length (rowE intsC g_)]), some (.cells [.i start]), some (.cells [.bools in_])]) (fn := Tryd.f82) (reachM_ok (n := 0) g_ in_ start (r := ()) rfl) (by kernel_rfl) Tryd.func82 (by kernel_rfl) (by kernel_rfl) (by kernel_rfl) (fun C hC => ?_) H
  have e : DV.yl C.l :: (List.range 3).map (L1 [.ref 0 0, .ref 1 0, .ref 2 0]) ++ List.replicate (Tryd.f82.ntmps - (3 + 1)) .any = frm 58 [(0, .yl C.l), (1, .ref 0 0), (2, .ref 1 0), (3, .ref 2 0)] := by kernel_rfl
  rw [e]
  exact reach_it g_ start in_ h C hC
end Go.Proofs.YtekkngkphejfcaaDoor
namespace Go.Proofs.YtekkngkphejfcaaDoor
open Go.RowKit
/-- The neighbors of a node. -/
def nb (g : List (List Int)) (v : Int) : List Int := g.getD v.toNat []
/-- A graph: few nodes, neighbors are nodes, both ways. -/
structure Gr (g : List (List Int)) : Prop where
  len : g.length ≤ 256
  row : ∀ v, 0 ≤ v → v < (g.length : Int) → (nb g v).length ≤ 256
  rng : ∀ v, 0 ≤ v → v < (g.length : Int) → ∀ u ∈ nb g v, 0 ≤ u ∧ u < (g.length : Int)
  sym : ∀ v, 0 ≤ v → v < (g.length : Int) → ∀ u ∈ nb g v, v ∈ nb g u
theorem Gr.of {g : List (List Int)} (h : graphOk g = true) (hr : ∀ r ∈ g, r.length ≤ LB) : Gr g := by
  unfold graphOk at h
  rw [Bool.and_eq_true, decide_eq_true_iff, List.all_eq_true] at h
  have key : ∀ v, 0 ≤ v → v < (g.length : Int) → ∀ u ∈ nb g v, (0 ≤ u ∧ u < (g.length : Int)) ∧ v ∈ nb g u := by
    intro v h0 h1 u hu
    have h2 := h.2 v.toNat (List.mem_range.2 (by omega))
    unfold rowOk at h2
    rw [List.all_eq_true] at h2
    obtain ⟨j, hj, e⟩ := List.getElem_of_mem hu
    have h3 := h2 j (List.mem_range.2 hj)
    unfold nodeOk at h3
    have e2 : (g.getD v.toNat []).getD j 0 = u := by
      show (nb g v).getD j 0 = u
      rw [List.getD_eq_getElem?_getD, List.getElem?_eq_getElem hj]; exact e
    simp only [e2, Bool.and_eq_true, decide_eq_true_iff, List.contains_iff_mem] at h3
    have e3 : ((v.toNat : Nat) : Int) = v := by omega
    rw [e3] at h3
    exact ⟨⟨h3.1.1.1.1, h3.1.1.1.2⟩, h3.2⟩
  have grow : ∀ v, 0 ≤ v → v < (g.length : Int) → ∀ k, k < (nb g v).length → (k : Int) ≤ (nb g v).getD k 0 := by
    intro v h0 h1 k
    have h2 := h.2 v.toNat (List.mem_range.2 (by omega))
    unfold rowOk at h2
    rw [List.all_eq_true] at h2
    induction k with
    | zero =>
      intro hk
      have h3 := h2 0 (List.mem_range.2 hk)
      unfold nodeOk at h3
      simp only [Bool.and_eq_true, decide_eq_true_iff] at h3
      exact h3.1.1.1.1
    | succ k ih =>
      intro hk
      have h3 := h2 (k + 1) (List.mem_range.2 hk)
      unfold nodeOk at h3
      have d : decide (0 < k + 1) = true := decide_eq_true (by omega)
      simp only [Bool.and_eq_true, decide_eq_true_iff, d, Bool.not_true, Bool.false_or, Nat.add_sub_cancel] at h3
      have h4 : (nb g v).getD k 0 < (nb g v).getD (k + 1) 0 := h3.1.2
      have := ih (by omega)
      omega
  exact ⟨h.1, fun v h0 h1 => by
    refine Nat.le_of_not_lt fun hl => ?_
    have h2 := grow v h0 h1 256 hl
    have h3 : (nb g v).getD 256 0 ∈ nb g v := by rw [List.getD_eq_getElem?_getD, List.getElem?_eq_getElem hl]; exact List.getElem_mem hl
    have h4 := (key v h0 h1 _ h3).1
    have := h.1
    omega, fun v h0 h1 u hu => (key v h0 h1 u hu).1, fun v h0 h1 u hu => (key v h0 h1 u hu).2⟩
/-- Connected with a node within a set. -/
inductive Rc (g : List (List Int)) (inn : List Bool) (s : Int) : Int → Prop
  | start : Rc g inn s s
  | step {a b : Int} (h : Rc g inn s a) (hb : b ∈ nb g a) (hi : inn.getD b.toNat false = true) : Rc g inn s b
section
variable {g : List (List Int)} {inn : List Bool} {s : Int}
theorem Rc.rng (G : Gr g) (h0 : 0 ≤ s) (h1 : s < (g.length : Int)) {v : Int} (h : Rc g inn s v) : 0 ≤ v ∧ v < (g.length : Int) := by
  induction h with
  | start => exact ⟨h0, h1⟩
  | step h hb hi ih => exact G.rng _ ih.1 ih.2 _ hb
theorem Rc.isIn (hs : inn.getD s.toNat false = true) {v : Int} (h : Rc g inn s v) : inn.getD v.toNat false = true := by
  cases h with
  | start => exact hs
  | step h hb hi => exact hi
theorem Rc.trans {a b : Int} (h : Rc g inn s a) (h2 : Rc g inn a b) : Rc g inn s b := by
  induction h2 with
  | start => exact h
  | step _ hb hi ih => exact .step ih hb hi
theorem Rc.symm (G : Gr g) (h0 : 0 ≤ s) (h1 : s < (g.length : Int)) (hs : inn.getD s.toNat false = true) {v : Int} (h : Rc g inn s v) : Rc g inn v s := by
  induction h with
  | start => exact .start
  | step h hb hi ih =>
    have hr := h.rng G h0 h1
    exact (Rc.step Rc.start (G.sym _ hr.1 hr.2 _ hb) (h.isIn hs)).trans ih
theorem Rc.mono {inn' : List Bool} (hm : ∀ v : Int, inn.getD v.toNat false = true → inn'.getD v.toNat false = true) {v : Int} (h : Rc g inn s v) : Rc g inn' s v := by
  induction h with
  | start => exact .start
  | step h hb hi ih => exact .step ih hb (hm _ hi)
def cntF (l : List Bool) : Nat := l.countP fun b => !b
theorem cntF_set : ∀ (l : List Bool) (i : Nat), i < l.length → l.getD i false = false → cntF (l.set i true) + 1 = cntF l
  | b :: l, 0, _, h => by
    have h : b = false := h
    subst h
    simp [cntF, List.countP_cons]
  | b :: l, i + 1, hi, h => by
    have := cntF_set l i (Nat.lt_of_succ_lt_succ hi) (by simpa using h)
    show cntF (b :: l.set i true) + 1 = cntF (b :: l)
    unfold cntF at this ⊢
    rw [List.countP_cons, List.countP_cons]
    omega
/-- A neighbor is met. -/
def exq (inn : List Bool) (st : List Bool × List Int) (v : Int) : List Bool × List Int := bif inn.getD v.toNat false && !st.1.getD v.toNat false then (st.1.set v.toNat true, st.2 ++ [v]) else st
/-- The search, with what was yielded so far. -/
structure Bf (g : List (List Int)) (inn : List Bool) (s : Int) (met : List Bool) (Q P : List Int) : Prop where
  len : met.length = g.length
  cnt : Q.length + cntF met ≤ g.length
  nd : (P ++ Q).Nodup
  rc : ∀ v ∈ P ++ Q, Rc g inn s v
  rng : ∀ v ∈ P ++ Q, 0 ≤ v ∧ v < (g.length : Int)
  met : ∀ v : Int, 0 ≤ v → v < (g.length : Int) → (met.getD v.toNat false = true ↔ v ∈ P ++ Q)
  cl : ∀ p ∈ P, ∀ b ∈ nb g p, inn.getD b.toNat false = true → b ∈ P ++ Q
  st : s ∈ P ++ Q
theorem Bf.ex (G : Gr g) {met : List Bool} {Q P : List Int} (h : Bf g inn s met Q P) {v u : Int} (hv : v ∈ Q) (hu : u ∈ nb g v) :
    Bf g inn s (exq inn (met, Q) u).1 (exq inn (met, Q) u).2 P ∧ (∃ t, (exq inn (met, Q) u).2 = Q ++ t) ∧ (inn.getD u.toNat false = true → u ∈ P ++ (exq inn (met, Q) u).2) ∧ 2 * cntF (exq inn (met, Q) u).1 + (exq inn (met, Q) u).2.length ≤ 2 * cntF met + Q.length := by
  have hvr := h.rng v (List.mem_append_right _ hv)
  have hur := G.rng v hvr.1 hvr.2 u hu
  unfold exq
  dsimp only
  cases hi : inn.getD u.toNat false
  · rw [Bool.false_and, cond_false]
    exact ⟨h, ⟨[], (List.append_nil _).symm⟩, fun h => (by cases h), Nat.le_refl _⟩
  · cases hm : met.getD u.toNat false
    · rw [Bool.not_false, Bool.and_true, cond_true]
      have hn : u ∉ P ++ Q := fun hh => by rw [(h.met u hur.1 hur.2).2 hh] at hm; cases hm
      have hl := h.len
      have hc := cntF_set met u.toNat (by omega) hm
      have hcnt := h.cnt
      have hmem : ∀ x, x ∈ P ++ (Q ++ [u]) ↔ x ∈ P ++ Q ∨ x = u := fun x => by simp [or_assoc]
      refine ⟨⟨by rw [List.length_set]; exact hl, by show (Q ++ [u]).length + cntF (met.set u.toNat true) ≤ _; rw [List.length_append, List.length_singleton]; omega, ?_, fun x hx => ?_, fun x hx => ?_, fun x hx0 hx1 => ?_, fun p hp b hb hbi => (hmem b).2 (.inl (h.cl p hp b hb hbi)), (hmem s).2 (.inl h.st)⟩, ⟨[u], rfl⟩, fun _ => (hmem u).2 (.inr rfl), by show 2 * cntF (met.set u.toNat true) + (Q ++ [u]).length ≤ _; rw [List.length_append, List.length_singleton]; omega⟩
      · rw [← List.append_assoc, List.nodup_append]
        exact ⟨h.nd, by simp, fun a ha b hb => by rw [List.mem_singleton] at hb; subst hb; exact fun e => hn (e ▸ ha)⟩
      · rcases (hmem x).1 hx with hx | rfl
        · exact h.rc x hx
        · exact .step (h.rc v (List.mem_append_right _ hv)) hu hi
      · rcases (hmem x).1 hx with hx | rfl
        · exact h.rng x hx
        · exact hur
      · rw [hmem, ← h.met x hx0 hx1]
        by_cases e : x = u
        · subst e
          rw [List.getD_eq_getElem?_getD, List.getElem?_set_self (by omega)]
          exact ⟨fun _ => .inr rfl, fun _ => rfl⟩
        · rw [List.getD_eq_getElem?_getD, List.getElem?_set_ne (by omega), ← List.getD_eq_getElem?_getD]
          exact ⟨.inl, fun h => h.elim id fun h => absurd h e⟩
    · rw [Bool.not_true, Bool.and_false, cond_false]
      exact ⟨h, ⟨[], by simp⟩, fun _ => (h.met u hur.1 hur.2).1 hm, Nat.le_refl _⟩
theorem Bf.exs (G : Gr g) {v : Int} {P : List Int} : ∀ (l : List Int) {met : List Bool} {Q : List Int}, Bf g inn s met Q P → v ∈ Q → (∀ u ∈ l, u ∈ nb g v) →
    Bf g inn s (l.foldl (exq inn) (met, Q)).1 (l.foldl (exq inn) (met, Q)).2 P ∧ (∃ t, (l.foldl (exq inn) (met, Q)).2 = Q ++ t) ∧ (∀ u ∈ l, inn.getD u.toNat false = true → u ∈ P ++ (l.foldl (exq inn) (met, Q)).2) ∧ 2 * cntF (l.foldl (exq inn) (met, Q)).1 + (l.foldl (exq inn) (met, Q)).2.length ≤ 2 * cntF met + Q.length
  | [], met, Q, h, hv, hl => ⟨h, ⟨[], by simp⟩, fun u hu => absurd hu List.not_mem_nil, Nat.le_refl _⟩
  | u :: l, met, Q, h, hv, hl => by
    obtain ⟨h1, ⟨t, ht⟩, h2, h3⟩ := h.ex G hv (hl u List.mem_cons_self)
    obtain ⟨h4, ⟨t', ht'⟩, h5, h6⟩ := Bf.exs G l h1 (by rw [ht]; exact List.mem_append_left _ hv) fun x hx => hl x (List.mem_cons_of_mem _ hx)
    refine ⟨h4, ⟨t ++ t', ?_⟩, fun x hx hi => ?_, Nat.le_trans h6 h3⟩
    · show (List.foldl (exq inn) (exq inn (met, Q) u) l).2 = _
      rw [ht', ht, List.append_assoc]
    · rcases List.mem_cons.1 hx with rfl | hx
      · show x ∈ P ++ (List.foldl (exq inn) (exq inn (met, Q) x) l).2
        rw [ht', ← List.append_assoc]
        exact List.mem_append_left _ (h2 hi)
      · exact h5 x hx hi
theorem l2_step {n j : Nat} {l : List Int} {met : List Bool} {Q : List Int} (hI : inn.length = g.length) (hG : g.length ≤ 256) (hm : met.length = g.length) (hQ : Q.length + cntF met ≤ g.length) (hj : j < l.length) (hl : l.length ≤ 256) (hr : 0 ≤ l.getD j 0 ∧ l.getD j 0 < (g.length : Int)) :
    reach_m g s inn (n + 1) (.l2 Q.length l (l.length : Int) (j : Int) met Q) = reach_m g s inn n (.l2 (exq inn (met, Q) (l.getD j 0)).2.length l (l.length : Int) ((j : Int) + 1) (exq inn (met, Q) (l.getD j 0)).1 (exq inn (met, Q) (l.getD j 0)).2) := by
  have r1 : R64 ((j : Int) + 1) := R64_iff.2 ⟨by omega, by omega⟩
  have L : (1000000000000 : Nat) = LIM := rfl
  show reach_l2 n (reach_m g s inn n) g s inn Q.length l (l.length : Int) (j : Int) met Q = _
  unfold reach_l2 exq
  simp only [Int.toNat_natCast, Nat.zero_add]
  rw [decide_eq_true (by omega), cond_true, if_pos ⟨⟨by omega, by omega⟩, by omega, by omega⟩]
  cases hi : inn.getD (l.getD j 0).toNat false
  · rw [cond_false, Bool.false_and, cond_false, if_pos r1]
  · rw [cond_true, Bool.true_and, if_pos ⟨hr, by omega⟩]
    cases ht : met.getD (l.getD j 0).toNat false
    · have hc := cntF_set met (l.getD j 0).toNat (by omega) ht
      rw [Bool.not_false, cond_true, cond_true, if_pos ⟨⟨⟨trivial, rfl⟩, ⟨trivial, trivial⟩, by rw [List.length_singleton, ← L]; omega⟩, r1⟩, List.length_append]
    · rw [Bool.not_true, cond_false, cond_false, if_pos r1]
theorem l2_all (hI : inn.length = g.length) (G : Gr g) {v : Int} {P : List Int} {l : List Int} (hl : l.length ≤ 256) (hlv : ∀ u ∈ l, u ∈ nb g v) : ∀ (k j n : Nat) {met : List Bool} {Q : List Int}, j + k = l.length → Bf g inn s met Q P → v ∈ Q →
    reach_m g s inn (n + k) (.l2 Q.length l (l.length : Int) (j : Int) met Q) = reach_m g s inn n (.l2 ((l.drop j).foldl (exq inn) (met, Q)).2.length l (l.length : Int) (l.length : Int) ((l.drop j).foldl (exq inn) (met, Q)).1 ((l.drop j).foldl (exq inn) (met, Q)).2)
  | 0, j, n, met, Q, e, h, hv => by
    have e : j = l.length := by omega
    subst e
    rw [List.drop_length]; rfl
  | k + 1, j, n, met, Q, e, h, hv => by
    have hj : j < l.length := by omega
    have hu : l.getD j 0 ∈ l := by rw [List.getD_eq_getElem?_getD, List.getElem?_eq_getElem hj]; exact List.getElem_mem hj
    have hvr := h.rng v (List.mem_append_right _ hv)
    have hr := G.rng v hvr.1 hvr.2 _ (hlv _ hu)
    obtain ⟨h1, ⟨t, ht⟩, _, _⟩ := h.ex G hv (hlv _ hu)
    rw [← Nat.add_assoc, l2_step hI G.len h.len h.cnt hj hl hr]
    have := l2_all hI G hl hlv k (j + 1) n (by omega) h1 (by rw [ht]; exact List.mem_append_left _ hv)
    have e1 : (((j + 1 : Nat)) : Int) = (j : Int) + 1 := by omega
    rw [e1] at this
    rw [this]
    have e2 : l.drop j = l.getD j 0 :: l.drop (j + 1) := by
      rw [List.drop_eq_getElem_cons hj, List.getD_eq_getElem?_getD, List.getElem?_eq_getElem hj]; rfl
    rw [e2]; rfl
/-- What the search yields from here on. -/
def BfP (g : List (List Int)) (inn : List Bool) (s : Int) (P l : List Int) : Prop := (P ++ l).Nodup ∧ (∀ v, v ∈ P ++ l ↔ Rc g inn s v)
theorem Bf.done {met : List Bool} {P : List Int} (h : Bf g inn s met [] P) : BfP g inn s P [] := by
  refine ⟨h.nd, fun v => ⟨h.rc v, fun hv => ?_⟩⟩
  induction hv with
  | start => exact h.st
  | step _ hb hi ih => exact h.cl _ (by simpa using ih) _ hb hi
theorem PEv.map {R : Type} {f : Nat → Option R} {Q : R → Prop} {Q' : R → Prop} {m : R → R} (h : PEv f Q) (hq : ∀ r, Q r → Q' (m r)) : PEv (fun n => (f n).map m) Q' := by
  obtain ⟨N, h⟩ := h
  refine ⟨N, fun n hn => ?_⟩
  obtain ⟨r, h1, h2⟩ := h n hn
  exact ⟨m r, by show (f n).map m = _; rw [h1]; rfl, hq r h2⟩
theorem bf_ev (G : Gr g) (hI : inn.length = g.length) : ∀ (z : Nat) (met : List Bool) (Q P : List Int), 2 * cntF met + Q.length = z → Bf g inn s met Q P → PEv (fun n => reach_m g s inn n (.l1 Q.length met Q)) (BfP g inn s P) := by
  intro z
  induction z using Nat.strongRecOn with
  | _ z ih =>
    intro met Q P hz h
    cases Q with
    | nil =>
      refine Ev.p (r := []) ⟨1, fun n hn => ?_⟩ h.done
      obtain ⟨n, rfl⟩ : ∃ k, n = k + 1 := ⟨n - 1, by omega⟩
      show reach_l1 n (reach_m g s inn n) g s inn 0 met [] = _
      unfold reach_l1
      rw [decide_eq_false (by omega), cond_false]
    | cons v q =>
      have hv : v ∈ v :: q := List.mem_cons_self
      have hvr := h.rng v (List.mem_append_right _ hv)
      obtain ⟨h1, ⟨t, ht⟩, h2, h3⟩ := h.exs G (nb g v) hv (fun u hu => hu)
      have hl := G.row v hvr.1 hvr.2
      generalize hst : (nb g v).foldl (exq inn) (met, v :: q) = st at h1 ht h2 h3
      obtain ⟨met', Q'⟩ := st
      have ht : Q' = v :: (q ++ t) := ht
      subst ht
      have hB : Bf g inn s met' (q ++ t) (P ++ [v]) := by
        have e : P ++ [v] ++ (q ++ t) = P ++ (v :: (q ++ t)) := by simp
        have hc := h1.cnt
        simp only [List.length_cons] at hc
        refine ⟨h1.len, by omega, by rw [e]; exact h1.nd, by rw [e]; exact h1.rc, by rw [e]; exact h1.rng, by rw [e]; exact h1.met, ?_, by rw [e]; exact h1.st⟩
        intro p hp b hb hi
        rw [e]
        rcases List.mem_append.1 hp with hp | hp
        · exact h1.cl p hp b hb hi
        · rw [List.mem_singleton] at hp
          subst hp
          exact h2 b hb hi
      have hz' : 2 * cntF met' + (q ++ t).length < z := by
        simp only [List.length_cons] at h3
        simp only [List.length_append] at h3 ⊢
        have : (v :: q).length = q.length + 1 := rfl
        omega
      have IH := ih _ hz' met' (q ++ t) (P ++ [v]) rfl hB
      have key : PEv (fun n => reach_m g s inn n (.l2 (v :: (q ++ t)).length (nb g v) ((nb g v).length : Int) ((nb g v).length : Int) met' (v :: (q ++ t)))) (BfP g inn s (P ++ [v])) := by
        have g0 : (0 : Int) ≤ 1 ∧ (1 : Int) ≤ (((v :: (q ++ t)).length : Nat) : Int) ∧ (((v :: (q ++ t)).length : Nat) : Int) ≤ (((v :: (q ++ t)).length : Nat) : Int) := ⟨by omega, by rw [List.length_cons]; omega, Int.le_refl _⟩
        cases hqt : q ++ t with
        | nil =>
          rw [hqt] at hB
          refine Ev.p (r := []) ⟨2, fun n hn => ?_⟩ hB.done
          obtain ⟨n, rfl⟩ : ∃ k, n = k + 2 := ⟨n - 2, by omega⟩
          show reach_l2 (n + 1) (reach_m g s inn (n + 1)) g s inn 1 (nb g v) ((nb g v).length : Int) ((nb g v).length : Int) met' [v] = _
          unfold reach_l2
          rw [decide_eq_false (by omega), cond_false]
          rfl
        | cons a r =>
          rw [← hqt]
          refine PEv.step 1 (fun n => ?_) IH
          show reach_l2 n (reach_m g s inn n) g s inn (v :: (q ++ t)).length (nb g v) ((nb g v).length : Int) ((nb g v).length : Int) met' (v :: (q ++ t)) = _
          unfold reach_l2
          have e0 : ((v :: (q ++ t)).length - 1 == 0) = false := by rw [hqt]; rfl
          rw [decide_eq_false (by omega), cond_false, e0, cond_false, if_pos g0, if_pos (by rw [List.length_cons]; omega)]
          rfl
      have key2 : PEv (fun n => reach_m g s inn n (.l2 (v :: q).length (nb g v) ((nb g v).length : Int) 0 met (v :: q))) (BfP g inn s (P ++ [v])) := by
        refine PEv.step (nb g v).length (fun n => ?_) key
        have := l2_all hI G hl (fun u hu => hu) (nb g v).length 0 n (by omega) h hv
        rw [List.drop_zero, hst] at this
        exact this
      have m : ∀ r : List Int, BfP g inn s (P ++ [v]) r → BfP g inn s P (v :: r) := fun r hr => by
        have e : P ++ [v] ++ r = P ++ (v :: r) := by simp
        unfold BfP at hr ⊢
        rw [e] at hr
        exact hr
      refine PEv.step 1 (fun n => ?_) (PEv.map key2 m)
      show reach_l1 n (reach_m g s inn n) g s inn (v :: q).length met (v :: q) = _
      unfold reach_l1
      have g1 : ((0 : Int) ≤ 0 ∧ 0 < (((v :: q).length : Nat) : Int)) ∧ 0 + 0 < (v :: q).length := by rw [List.length_cons]; omega
      rw [decide_eq_true (by rw [List.length_cons]; omega), cond_true, if_pos g1]
      have e1 : (v :: q).getD (0 + 0) 0 = v := rfl
      rw [e1, if_pos ⟨g1.1, g1.2, hvr⟩]
      rfl
/-- reach yields what is connected with the start within the set, each node once, first the start. -/
theorem reach_ev (G : Gr g) (hI : inn.length = g.length) (h0 : 0 ≤ s) (h1 : s < (g.length : Int)) : PEv (fun n => reach n g s inn) (fun l => l.Nodup ∧ ∀ v, v ∈ l ↔ Rc g inn s v) := by
  have hlen : ((List.replicate g.length false).set s.toNat true).length = g.length := by simp
  have hG := G.len
  have hc := cntF_set (List.replicate g.length false) s.toNat (by rw [List.length_replicate]; omega) (by simp [List.getD_eq_getElem?_getD, List.getElem?_replicate]; split <;> rfl)
  have hc2 : cntF (List.replicate g.length false) ≤ g.length := by
    have := List.countP_le_length (p := fun b => !b) (l := List.replicate g.length false)
    rw [List.length_replicate] at this; exact this
  have hB : Bf g inn s ((List.replicate g.length false).set s.toNat true) [s] [] := by
    refine ⟨hlen, by rw [List.length_singleton]; omega, by simp, fun v hv => ?_, fun v hv => ?_, fun v hv0 hv1 => ?_, fun p hp => absurd hp List.not_mem_nil, by simp⟩
    · have : v = s := by simpa using hv
      subst this; exact .start
    · have : v = s := by simpa using hv
      subst this; exact ⟨h0, h1⟩
    · by_cases e : v = s
      · subst e
        rw [List.getD_eq_getElem?_getD, List.getElem?_set_self (by rw [List.length_replicate]; omega)]
        simp
      · rw [List.getD_eq_getElem?_getD, List.getElem?_set_ne (by omega), List.getElem?_replicate]
        simp only [List.nil_append, List.mem_singleton, e, iff_false]
        split <;> simp
  have := bf_ev G hI _ _ _ _ rfl hB
  refine (PEv.mono (Q' := fun l => l.Nodup ∧ ∀ v, v ∈ l ↔ Rc g inn s v) this (fun l (hl : BfP g inn s [] l) => (⟨hl.1, hl.2⟩ : l.Nodup ∧ ∀ v, v ∈ l ↔ Rc g inn s v))).eq fun n => ?_
  unfold reach reach_l0
  rw [if_pos ⟨⟨rfl, by omega, by omega⟩, ⟨h0, h1⟩, by simp only [List.length_replicate]; omega⟩, Nat.zero_add]
  rfl
end
end Go.Proofs.YtekkngkphejfcaaDoor
namespace Go.Proofs.YtekkngkphejfcaaDoor
/-- A bit of a machine integer. -/
def tb (x : Int) (i : Nat) : Bool := (BitVec.ofInt 64 x).getLsbD i
def In64 (x : Int) : Prop := -9223372036854775808 ≤ x ∧ x ≤ 9223372036854775807
theorem ofInt_wrap (x : Int) : BitVec.ofInt 64 (IntKind.i64.wrap x) = BitVec.ofInt 64 x := by
  apply BitVec.eq_of_toNat_eq
  rw [BitVec.toNat_ofInt, BitVec.toNat_ofInt, IntKind.wrap_i64]
  congr 1
  omega
theorem ofInt_toNat (y : BitVec 64) : BitVec.ofInt 64 (y.toNat : Int) = y := by
  rw [BitVec.ofInt_natCast]; simp
theorem wrap_in (x : Int) : In64 (IntKind.i64.wrap x) := by
  rw [IntKind.wrap_i64]; constructor <;> omega
theorem bits_in (op : BinOp) (a b : Int) : In64 (bits op .i64 a b) := wrap_in _
theorem tb_or (a b : Int) (i : Nat) : tb (bits .or .i64 a b) i = (tb a i || tb b i) := by
  show (BitVec.ofInt 64 (IntKind.i64.wrap ((BitVec.ofInt 64 a ||| BitVec.ofInt 64 b).toNat : Int))).getLsbD i = _
  rw [ofInt_wrap, ofInt_toNat, BitVec.getLsbD_or]; rfl
theorem tb_and (a b : Int) (i : Nat) : tb (bits .and .i64 a b) i = (tb a i && tb b i) := by
  show (BitVec.ofInt 64 (IntKind.i64.wrap ((BitVec.ofInt 64 a &&& BitVec.ofInt 64 b).toNat : Int))).getLsbD i = _
  rw [ofInt_wrap, ofInt_toNat, BitVec.getLsbD_and]; rfl
theorem tb_ge {x : Int} {i : Nat} (h : 64 ≤ i) : tb x i = false := BitVec.getLsbD_of_ge _ _ h
theorem tb_andNot (a b : Int) (i : Nat) : tb (bits .andNot .i64 a b) i = (tb a i && !tb b i) := by
  show (BitVec.ofInt 64 (IntKind.i64.wrap ((BitVec.ofInt 64 a &&& ~~~ BitVec.ofInt 64 b).toNat : Int))).getLsbD i = _
  rw [ofInt_wrap, ofInt_toNat, BitVec.getLsbD_and, BitVec.getLsbD_not]
  by_cases h : i < 64
  · simp [h, tb]
  · have h : 64 ≤ i := by omega
    have := tb_ge (x := a) h
    unfold tb at *
    rw [this]; simp
theorem tb_not (a : Int) {i : Nat} (h : i < 64) : tb (bits .xor .i64 (-1) a) i = !tb a i := by
  show (BitVec.ofInt 64 (IntKind.i64.wrap ((BitVec.ofInt 64 (-1) ^^^ BitVec.ofInt 64 a).toNat : Int))).getLsbD i = _
  rw [ofInt_wrap, ofInt_toNat, BitVec.getLsbD_xor]
  have : BitVec.ofInt 64 (-1) = BitVec.allOnes 64 := by decide
  rw [this, BitVec.getLsbD_allOnes]
  simp [h, tb]
theorem tb_zero (i : Nat) : tb 0 i = false := by
  unfold tb
  rw [show BitVec.ofInt 64 0 = 0#64 from rfl]; simp
theorem tb0 {i : Nat} : ¬ tb 0 i = true := by rw [tb_zero]; decide
theorem tb_ext {x y : Int} (hx : In64 x) (hy : In64 y) (h : ∀ i, i < 64 → tb x i = tb y i) : x = y := by
  have e : BitVec.ofInt 64 x = BitVec.ofInt 64 y := BitVec.eq_of_getLsbD_eq fun i hi => h i hi
  have e2 := congrArg BitVec.toNat e
  rw [BitVec.toNat_ofInt, BitVec.toNat_ofInt] at e2
  unfold In64 at *
  omega
theorem tb_nat (m i : Nat) (hi : i < 64) : tb (m : Int) i = m.testBit i := by
  unfold tb
  rw [BitVec.ofInt_natCast, BitVec.getLsbD_ofNat]; simp [hi]
/-- Small sets. -/
def Sm (k : Nat) (x : Int) : Prop := 0 ≤ x ∧ x < 2 ^ k
theorem pow_le62 {k : Nat} (hk : k ≤ 62) : (2 : Int) ^ k ≤ 4611686018427387904 := by
  have : (2 : Nat) ^ k ≤ 2 ^ 62 := Nat.pow_le_pow_right (by decide) hk
  have h : ((2 ^ k : Nat) : Int) ≤ ((2 ^ 62 : Nat) : Int) := by exact_mod_cast this
  simpa using h
theorem Sm.in64 {k : Nat} {x : Int} (hk : k ≤ 62) (h : Sm k x) : In64 x := by
  have := pow_le62 hk
  obtain ⟨h1, h2⟩ := h
  constructor <;> omega
theorem Sm.hi {k : Nat} {x : Int} (h : Sm k x) {i : Nat} (hi : k ≤ i) : tb x i = false := by
  rcases Nat.lt_or_ge i 64 with h64 | h64
  · obtain ⟨m, rfl⟩ := Int.eq_ofNat_of_zero_le h.1
    rw [tb_nat m i h64]
    apply Nat.testBit_lt_two_pow
    have h2 : (m : Int) < 2 ^ k := h.2
    have h3 : m < 2 ^ k := by exact_mod_cast h2
    exact Nat.lt_of_lt_of_le h3 (Nat.pow_le_pow_right (by decide) hi)
  · exact tb_ge h64
theorem sm_of {k : Nat} (hk : k ≤ 62) {x : Int} (hx : In64 x) (h : ∀ i, k ≤ i → i < 64 → tb x i = false) : Sm k x := by
  have hy : (BitVec.ofInt 64 x).toNat < 2 ^ k := by
    apply Nat.lt_pow_two_of_testBit
    intro i hi
    rcases Nat.lt_or_ge i 64 with h64 | h64
    · have := h i hi h64
      unfold tb at this
      rwa [BitVec.getLsbD] at this
    · exact Nat.testBit_lt_two_pow (Nat.lt_of_lt_of_le (BitVec.isLt _) (Nat.pow_le_pow_right (by decide) h64))
  rw [BitVec.toNat_ofInt] at hy
  have h1 := pow_le62 hk
  have h2 : ((2 ^ k : Nat) : Int) = (2 : Int) ^ k := by simp
  unfold In64 at hx
  unfold Sm
  omega
theorem tb_pow {s i : Nat} (hi : i < 64) : tb ((2 ^ s : Nat) : Int) i = decide (s = i) := by
  rw [tb_nat _ _ hi, Nat.testBit_two_pow]
/-- No bit, no set. -/
theorem tb_eq_zero {x : Int} (hx : In64 x) : x = 0 ↔ ∀ i, i < 64 → tb x i = false :=
  ⟨fun h i _ => by rw [h]; exact tb_zero i, fun h => tb_ext hx ⟨by decide, by decide⟩ fun i hi => by rw [h i hi, tb_zero]⟩
theorem tb_ne_zero {x : Int} (hx : In64 x) : x ≠ 0 ↔ ∃ i, i < 64 ∧ tb x i = true := by
  rw [ne_eq, tb_eq_zero hx]
  constructor
  · intro h
    refine Classical.byContradiction fun h2 => h fun i hi => ?_
    cases hb : tb x i with
    | false => rfl
    | true => exact absurd ⟨i, hi, hb⟩ h2
  · rintro ⟨i, hi, hb⟩ h
    rw [h i hi] at hb; cases hb
end Go.Proofs.YtekkngkphejfcaaDoor
namespace Go.Proofs.YtekkngkphejfcaaDoor
open Go.RowKit
/-- A loop over an index with a state: an invariant, up to the end. -/
theorem loopE {S R : Type} (m : Nat → S → Int → Option R) (len N0 : Nat) (Inv : Nat → S → Prop)
    (h : ∀ (n i : Nat) (s : S), N0 ≤ n → i < len → Inv i s → ∃ s', m (n + 1) s (i : Int) = m n s' ((i : Int) + 1) ∧ Inv (i + 1) s') :
    ∀ (k i n : Nat) (s : S), i + k = len → N0 ≤ n → Inv i s → ∃ s', m (n + k) s (i : Int) = m n s' (len : Int) ∧ Inv len s'
  | 0, i, n, s, e, _, hI => by
    have : i = len := by omega
    subst this
    exact ⟨s, rfl, hI⟩
  | k + 1, i, n, s, e, hn, hI => by
    obtain ⟨s', h1, h2⟩ := h (n + k) i s (by omega) (by omega) hI
    obtain ⟨s2, h3, h4⟩ := loopE m len N0 Inv h k (i + 1) n s' (by omega) hn h2
    refine ⟨s2, ?_, h4⟩
    rw [show n + (k + 1) = n + k + 1 by omega, h1, ← h3]
    rfl
/-- From the start. -/
theorem loop0 {S R : Type} (m : Nat → S → Int → Option R) (len N0 : Nat) (Inv : Nat → S → Prop)
    (h : ∀ (n i : Nat) (s : S), N0 ≤ n → i < len → Inv i s → ∃ s', m (n + 1) s (i : Int) = m n s' ((i : Int) + 1) ∧ Inv (i + 1) s')
    {n : Nat} {s : S} (hn : N0 + len ≤ n) (hI : Inv 0 s) : ∃ n' s', N0 ≤ n' ∧ n' + len = n ∧ m n s 0 = m n' s' (len : Int) ∧ Inv len s' := by
  obtain ⟨s', h1, h2⟩ := loopE m len N0 Inv h len 0 (n - len) s (by omega) (by omega) hI
  rw [show n - len + len = n by omega] at h1
  exact ⟨n - len, s', by omega, by omega, h1, h2⟩
/-- What a constraint works on: its cells are cells of the position, whose sets are small. -/
structure Work (c : ConsD) (k : Nat) (pos : List Int) : Prop where
  cells : ∀ a, a < c.cells.length → 0 ≤ c.cells.getD a 0 ∧ c.cells.getD a 0 < (pos.length : Int)
  len : c.cells.length ≤ 256
  sm : ∀ i, i < pos.length → Sm k (pos.getD i 0)
  k : k ≤ 16
/-- The set of the constraint's cell with an index. -/
def setAt (c : ConsD) (pos : List Int) (a : Nat) : Int := pos.getD (c.cells.getD a 0).toNat 0
def single (x : Int) : Bool := bits .and .i64 x (x - 1) == 0
section
variable {c : ConsD} {k : Nat} {pos lost : List Int} {q : ProbD}
theorem Work.at (W : Work c k pos) {a : Nat} (ha : a < c.cells.length) : Sm k (setAt c pos a) := by
  have := W.cells a ha
  exact W.sm _ (by omega)
theorem Work.r64 (W : Work c k pos) {a : Nat} (ha : a < c.cells.length) : R64 (setAt c pos a - 1) ∧ R64 ((a : Int) + 1) := by
  have h := W.at ha
  have h2 := pow_le62 (k := k) (Nat.le_trans W.k (by decide))
  have h3 := W.len
  obtain ⟨h0, h1⟩ := h
  exact ⟨R64_iff.2 ⟨by omega, by omega⟩, R64_iff.2 ⟨by omega, by omega⟩⟩
theorem lose_some {n : Nat} {cell ss : Int} (h0 : 0 ≤ cell) (h1 : cell < (pos.length : Int)) (hl : lost.length = pos.length) :
    ∃ l', loseW n cell ss c q pos pos.length lost = some l' ∧ l'.length = pos.length ∧ ∀ j s, tb (l'.getD j 0) s = (tb (lost.getD j 0) s || (decide (j = cell.toNat) && (tb (pos.getD j 0) s && tb ss s))) := by
  refine ⟨lost.set cell.toNat (bits .or .i64 (lost.getD cell.toNat 0) (bits .and .i64 (pos.getD cell.toNat 0) ss)), ?_, by rw [List.length_set]; exact hl, fun j s => ?_⟩
  · unfold loseW loseW_l0
    simp only [Nat.zero_add]
    rw [if_pos ⟨⟨h0, h1⟩, by omega, h0, h1⟩]
  · by_cases hj : j = cell.toNat
    · subst hj
      rw [List.getD_eq_getElem?_getD, List.getElem?_set_self (by omega), Option.getD_some, tb_or, tb_and, decide_eq_true rfl, Bool.true_and]
    · rw [List.getD_eq_getElem?_getD, List.getElem?_set_ne (fun e => hj e.symm), ← List.getD_eq_getElem?_getD, decide_eq_false hj, Bool.false_and, Bool.or_false]
theorem only_some {n : Nat} {cell : Int} (h0 : 0 ≤ cell) (h1 : cell < (pos.length : Int)) (hl : lost.length = pos.length) :
    ∃ l', onlyW n cell c q pos pos.length lost = some l' ∧ l'.length = pos.length ∧ ∀ j s, tb (l'.getD j 0) s = (tb (lost.getD j 0) s || (decide (j = cell.toNat) && (tb (pos.getD j 0) s && !tb c.set s))) := by
  refine ⟨lost.set cell.toNat (bits .or .i64 (lost.getD cell.toNat 0) (bits .andNot .i64 (pos.getD cell.toNat 0) c.set)), ?_, by rw [List.length_set]; exact hl, fun j s => ?_⟩
  · unfold onlyW onlyW_l0
    simp only [Nat.zero_add]
    rw [if_pos ⟨⟨h0, h1⟩, by omega, h0, h1⟩]
  · by_cases hj : j = cell.toNat
    · subst hj
      rw [List.getD_eq_getElem?_getD, List.getElem?_set_self (by omega), Option.getD_some, tb_or, tb_andNot, decide_eq_true rfl, Bool.true_and]
    · rw [List.getD_eq_getElem?_getD, List.getElem?_set_ne (fun e => hj e.symm), ← List.getD_eq_getElem?_getD, decide_eq_false hj, Bool.false_and, Bool.or_false]
/-- The cell with an index is the only one of a symbol. -/
def Sg (c : ConsD) (pos : List Int) (a s : Nat) : Prop := single (setAt c pos a) = true ∧ tb (setAt c pos a) s = true
/-- What is lost, is lost for a reason. -/
def LostBy (c : ConsD) (pos lost : List Int) (i : Nat) (D : Nat → Nat → Prop) (l : List Int) : Prop :=
  l.length = pos.length ∧ ∀ j s, tb (l.getD j 0) s = true ↔ tb (lost.getD j 0) s = true ∨ ∃ a, a < i ∧ (c.cells.getD a 0).toNat = j ∧ tb (setAt c pos a) s = true ∧ D a s
theorem LostBy.step {D : Nat → Nat → Prop} {i : Nat} {l l' : List Int} (h : LostBy c pos lost i D l) (hl : l'.length = pos.length)
    (h1 : ∀ j s, tb (l'.getD j 0) s = true ↔ tb (l.getD j 0) s = true ∨ ((c.cells.getD i 0).toNat = j ∧ tb (setAt c pos i) s = true ∧ D i s)) : LostBy c pos lost (i + 1) D l' := by
  refine ⟨hl, fun j s => ?_⟩
  rw [h1, h.2]
  constructor
  · rintro ((h | ⟨a, ha, h⟩) | h)
    · exact .inl h
    · exact .inr ⟨a, by omega, h⟩
    · exact .inr ⟨i, by omega, h⟩
  · rintro (h3 | ⟨a, ha, h3⟩)
    · exact .inl (.inl h3)
    · rcases Nat.lt_succ_iff_lt_or_eq.1 ha with ha | rfl
      · exact .inl (.inr ⟨a, ha, h3⟩)
      · exact .inr h3
theorem LostBy.zero {D : Nat → Nat → Prop} (hl : lost.length = pos.length) : LostBy c pos lost 0 D lost :=
  ⟨hl, fun j s => ⟨.inl, fun h => h.elim id fun ⟨a, ha, _⟩ => absurd ha (Nat.not_lt_zero a)⟩⟩
/-- A different cell of the constraint is the only one of the symbol. -/
def diffD (c : ConsD) (pos : List Int) (a s : Nat) : Prop := ∃ b, b < c.cells.length ∧ b ≠ a ∧ Sg c pos b s
theorem diff_some {n : Nat} (W : Work c k pos) (hl : lost.length = pos.length) (hn : 2 * c.cells.length + 2 ≤ n) :
    ∃ l, diffW n c q pos pos.length lost = some (true, l) ∧ LostBy c pos lost c.cells.length (diffD c pos) l := by
  have lt : ∀ i, i < c.cells.length → ((i : Nat) : Int) < ((c.cells.length : Nat) : Int) := fun i hi => by omega
  have S := loop0 (fun n (s : Int × Int) i => diffW_m c q pos pos.length lost n (.l1 s.1 s.2 i)) c.cells.length (c.cells.length + 2)
    (fun i s => (∀ j, tb s.1 j = true ↔ ∃ a, a < i ∧ Sg c pos a j) ∧ (∀ j, tb s.2 j = true ↔ ∃ a b, a < b ∧ b < i ∧ Sg c pos a j ∧ Sg c pos b j))
    (fun n i s _ hi hI => ?_) (n := n) (s := (0, 0)) (by omega) ?_
  · obtain ⟨n1, ⟨o, t⟩, hn1, _, e1, ho, ht⟩ := S
    obtain ⟨n2, rfl⟩ : ∃ n2, n1 = n2 + 1 := ⟨n1 - 1, by omega⟩
    have T := loop0 (fun n (s : List Int) i => diffW_m c q pos pos.length lost n (.l2 o t i s)) c.cells.length 1
      (fun i s => LostBy c pos lost i (diffD c pos) s) (fun n i s hn0 hi hI => ?_) (n := n2) (s := lost) (by omega) (LostBy.zero hl)
    · obtain ⟨n3, l, hn3, _, e2, hL⟩ := T
      obtain ⟨n4, rfl⟩ : ∃ n4, n3 = n4 + 1 := ⟨n3 - 1, by omega⟩
      refine ⟨l, ?_, hL⟩
      unfold diffW diffW_l0
      refine e1.trans ?_
      show diffW_l1 n2 (diffW_m c q pos pos.length lost n2) c q pos pos.length lost o t (c.cells.length : Int) = _
      unfold diffW_l1
      rw [decide_eq_false (by omega), cond_false]
      refine e2.trans ?_
      show diffW_l2 n4 (diffW_m c q pos pos.length lost n4) c q pos pos.length lost o t (c.cells.length : Int) l = _
      unfold diffW_l2
      rw [decide_eq_false (by omega), cond_false]
    · have hc := W.cells i hi
      have hr := W.r64 hi
      show ∃ s', diffW_l2 n (diffW_m c q pos pos.length lost n) c q pos pos.length lost o t (i : Int) s = _ ∧ _
      unfold diffW_l2
      rw [decide_eq_true (lt i hi), cond_true]
      simp only [Int.toNat_natCast]
      rw [if_pos ⟨⟨by omega, lt i hi⟩, hc, hr.1⟩]
      have sg : (bits .and .i64 (pos.getD (c.cells.getD i 0).toNat 0) (pos.getD (c.cells.getD i 0).toNat 0 - 1) == 0) = single (setAt c pos i) := rfl
      rw [sg]
      cases hs : single (setAt c pos i)
      · rw [cond_false]
        obtain ⟨l', h1, h2, h3⟩ := lose_some (n := n) (ss := o) (c := c) (q := q) hc.1 hc.2 hI.1
        rw [h1, Option.bind_some, if_pos hr.2]
        refine ⟨l', rfl, hI.step h2 fun j x => ?_⟩
        rw [h3, Bool.or_eq_true, Bool.and_eq_true, Bool.and_eq_true, decide_eq_true_iff, ho]
        constructor
        · rintro (h | ⟨rfl, h4, b, hb, h5⟩)
          · exact .inl h
          · refine .inr ⟨rfl, h4, b, hb, ?_, h5⟩
            rintro rfl
            rw [h5.1] at hs; cases hs
        · rintro (h | ⟨rfl, h4, b, hb, _, h5⟩)
          · exact .inl h
          · exact .inr ⟨rfl, h4, b, hb, h5⟩
      · rw [cond_true]
        obtain ⟨l', h1, h2, h3⟩ := lose_some (n := n) (ss := bits .or .i64 (bits .andNot .i64 o (pos.getD (c.cells.getD i 0).toNat 0)) t) (c := c) (q := q) hc.1 hc.2 hI.1
        rw [h1, Option.bind_some, if_pos hr.2]
        refine ⟨l', rfl, hI.step h2 fun j x => ?_⟩
        rw [h3, Bool.or_eq_true, Bool.and_eq_true, Bool.and_eq_true, decide_eq_true_iff, tb_or, tb_andNot, Bool.or_eq_true, Bool.and_eq_true, ht]
        constructor
        · rintro (h | ⟨rfl, h4, ⟨_, h5⟩ | ⟨x1, y1, h6, h7, h8, h9⟩⟩)
          · exact .inl h
          · rw [h4] at h5; cases h5
          · refine .inr ⟨rfl, h4, ?_⟩
            by_cases e : x1 = i
            · exact ⟨y1, h7, by omega, h9⟩
            · exact ⟨x1, by omega, e, h8⟩
        · rintro (h | ⟨rfl, h4, b, hb, h5, h6⟩)
          · exact .inl h
          · refine .inr ⟨rfl, h4, .inr ?_⟩
            rcases Nat.lt_or_gt_of_ne h5 with h5 | h5
            · exact ⟨b, i, h5, hi, h6, hs, h4⟩
            · exact ⟨i, b, h5, hb, ⟨hs, h4⟩, h6⟩
  · obtain ⟨o, t⟩ := s
    obtain ⟨h1, h2⟩ := hI
    simp only at h1 h2
    have hc := W.cells i hi
    have hr := W.r64 hi
    show ∃ s', diffW_l1 n (diffW_m c q pos pos.length lost n) c q pos pos.length lost o t (i : Int) = _ ∧ _
    unfold diffW_l1
    rw [decide_eq_true (lt i hi), cond_true]
    simp only [Int.toNat_natCast]
    rw [if_pos ⟨⟨by omega, lt i hi⟩, hc, hr.1⟩]
    have sg : (bits .and .i64 (pos.getD (c.cells.getD i 0).toNat 0) (pos.getD (c.cells.getD i 0).toNat 0 - 1) == 0) = single (setAt c pos i) := rfl
    rw [sg]
    cases hs : single (setAt c pos i)
    · rw [cond_false, if_pos hr.2]
      refine ⟨(o, t), rfl, fun j => ?_, fun j => ?_⟩
      · rw [h1]
        constructor
        · rintro ⟨a, ha, h⟩
          exact ⟨a, by omega, h⟩
        · rintro ⟨a, ha, h⟩
          rcases Nat.lt_succ_iff_lt_or_eq.1 ha with ha | rfl
          · exact ⟨a, ha, h⟩
          · rw [h.1] at hs; cases hs
      · rw [h2]
        constructor
        · rintro ⟨a, b, hab, hb, h⟩
          exact ⟨a, b, hab, by omega, h⟩
        · rintro ⟨a, b, hab, hb, h⟩
          rcases Nat.lt_succ_iff_lt_or_eq.1 hb with hb | rfl
          · exact ⟨a, b, hab, hb, h⟩
          · rw [h.2.1] at hs; cases hs
    · rw [cond_true, if_pos hr.2]
      refine ⟨(bits .or .i64 o (setAt c pos i), bits .or .i64 t (bits .and .i64 o (setAt c pos i))), rfl, fun j => ?_, fun j => ?_⟩
      · rw [tb_or, Bool.or_eq_true, h1]
        constructor
        · rintro (⟨a, ha, h⟩ | h)
          · exact ⟨a, by omega, h⟩
          · exact ⟨i, by omega, hs, h⟩
        · rintro ⟨a, ha, h⟩
          rcases Nat.lt_succ_iff_lt_or_eq.1 ha with ha | rfl
          · exact .inl ⟨a, ha, h⟩
          · exact .inr h.2
      · rw [tb_or, tb_and, Bool.or_eq_true, Bool.and_eq_true, h1, h2]
        constructor
        · rintro (⟨a, b, hab, hb, h⟩ | ⟨⟨a, ha, h⟩, h3⟩)
          · exact ⟨a, b, hab, by omega, h⟩
          · exact ⟨a, i, ha, by omega, h, hs, h3⟩
        · rintro ⟨a, b, hab, hb, h, h3⟩
          rcases Nat.lt_succ_iff_lt_or_eq.1 hb with hb | rfl
          · exact .inl ⟨a, b, hab, hb, h, h3⟩
          · exact .inr ⟨⟨a, hab, h⟩, h3.2⟩
  · exact ⟨fun j => ⟨fun h => absurd h tb0, fun ⟨a, ha, _⟩ => absurd ha (Nat.not_lt_zero a)⟩, fun j => ⟨fun h => absurd h tb0, fun ⟨a, b, _, hb, _⟩ => absurd hb (Nat.not_lt_zero b)⟩⟩
end
end Go.Proofs.YtekkngkphejfcaaDoor
namespace Go.Proofs
open Go.Shelf
def Tryd.lays189_ren : Go.Shelf.Ren := ⟨fun | 189 => 84 | 125 => 87 | 257 => 86 | 128 => 97 | 129 => 98 | 294 => 88 | 295 => 89 | 296 => 90 | 297 => 91 | 298 => 92 | 299 => 93 | 216 => 94 | 300 => 95 | 301 => 96 | 328 => 99 | 329 => 100 | 330 => 101 | 331 => 102 | 332 => 103 | 215 => 104 | 343 => 105 | n => n, fun | 28 => 22 | 3 => 3 | 46 => 82 | 0 => 0 | 51 => 109 | 53 => 63 | 4 => 4 | 183 => 130 | 182 => 129 | 131 => 133 | 5 => 5 | 9 => 9 | 218 => 135 | 222 => 139 | 228 => 141 | 229 => 89 | n => n, fun | n => n⟩
theorem Tryd.lays189 : Go.Proofs.Lays.n189 Tryd.prog Tryd.lays189_ren := {
  mixed := by kernel_rfl
  f125 := Tryd.func87.trans (congrArg some (by kernel_rfl))
  f128 := Tryd.func97.trans (congrArg some (by kernel_rfl))
  f129 := Tryd.func98.trans (congrArg some (by kernel_rfl))
  f189 := Tryd.func84.trans (congrArg some (by kernel_rfl))
  f215 := Tryd.func104.trans (congrArg some (by kernel_rfl))
  f216 := Tryd.func94.trans (congrArg some (by kernel_rfl))
  f257 := Tryd.func86.trans (congrArg some (by kernel_rfl))
  f294 := Tryd.func88.trans (congrArg some (by kernel_rfl))
  f295 := Tryd.func89.trans (congrArg some (by kernel_rfl))
  f296 := Tryd.func90.trans (congrArg some (by kernel_rfl))
  f297 := Tryd.func91.trans (congrArg some (by kernel_rfl))
  f298 := Tryd.func92.trans (congrArg some (by kernel_rfl))
  f299 := Tryd.func93.trans (congrArg some (by kernel_rfl))
  f300 := Tryd.func95.trans (congrArg some (by kernel_rfl))
  f301 := Tryd.func96.trans (congrArg some (by kernel_rfl))
  f328 := Tryd.func99.trans (congrArg some (by kernel_rfl))
  f329 := Tryd.func100.trans (congrArg some (by kernel_rfl))
  f330 := Tryd.func101.trans (congrArg some (by kernel_rfl))
  f331 := Tryd.func102.trans (congrArg some (by kernel_rfl))
  f332 := Tryd.func103.trans (congrArg some (by kernel_rfl))
  f343 := Tryd.func105.trans (congrArg some (by kernel_rfl))
  t0 := Tryd.underlying0
  a0 := Tryd.isAgg0
  z0 := Tryd.sizeOf0
  v0 := Tryd.zeroValue0
  t3 := Tryd.underlying3
  a3 := Tryd.isAgg3
  z3 := Tryd.sizeOf3
  v3 := Tryd.zeroValue3
  t4 := Tryd.underlying4
  a4 := Tryd.isAgg4
  z4 := Tryd.sizeOf4
  v4 := Tryd.zeroValue4
  t5 := Tryd.underlying5
  a5 := Tryd.isAgg5
  z5 := Tryd.sizeOf5
  v5 := Tryd.zeroValue5
  t9 := Tryd.underlying9
  a9 := Tryd.isAgg9
  z9 := Tryd.sizeOf9
  v9 := Tryd.zeroValue9
  t28 := Tryd.underlying22
  a28 := Tryd.isAgg22
  z28 := Tryd.sizeOf22
  v28 := Tryd.zeroValue22
  t46 := Tryd.underlying82
  a46 := Tryd.isAgg82
  z46 := Tryd.sizeOf82
  v46 := Tryd.zeroValue82
  t51 := Tryd.underlying109
  a51 := Tryd.isAgg109
  z51 := Tryd.sizeOf109
  v51 := Tryd.zeroValue109
  t53 := Tryd.underlying63
  a53 := Tryd.isAgg63
  z53 := Tryd.sizeOf63
  v53 := Tryd.zeroValue63
  t131 := Tryd.underlying133
  a131 := Tryd.isAgg133
  z131 := Tryd.sizeOf133
  v131 := Tryd.zeroValue133
  t182 := Tryd.underlying129
  a182 := Tryd.isAgg129
  z182 := Tryd.sizeOf129
  v182 := Tryd.zeroValue129
  t183 := Tryd.underlying130
  a183 := Tryd.isAgg130
  z183 := Tryd.sizeOf130
  v183 := Tryd.zeroValue130
  t218 := Tryd.underlying135
  a218 := Tryd.isAgg135
  z218 := Tryd.sizeOf135
  v218 := Tryd.zeroValue135
  t222 := Tryd.underlying139
  a222 := Tryd.isAgg139
  z222 := Tryd.sizeOf139
  v222 := Tryd.zeroValue139
  t228 := Tryd.underlying141
  a228 := Tryd.isAgg141
  z228 := Tryd.sizeOf141
  v228 := Tryd.zeroValue141
  t229 := Tryd.underlying89
  a229 := Tryd.isAgg89
  z229 := Tryd.sizeOf89
  v229 := Tryd.zeroValue89 }
open Go.Sort Go.RowKit in
theorem Tryd.slices_Sort_int (blk off cap : Nat) (zs : List Int) (w : World) (hH : Holds (Value.int .i64) w blk off zs.toArray) (hblk : blk < w.heap.size) (hsz : zs.length < 4611686018427387904) :
    Calls Tryd.prog 84 #[.slice (some ⟨blk, off, none⟩) zs.length cap] w fun e w' =>
      e = .returned (.tuple #[]) ∧ ∃ n os, w' = grow (putRow (Value.int .i64) (Sort.ahead w n) blk off (zs.mergeSort fun x y => decide (x ≤ y)).toArray) os := Any.slices_Sort_int Tryd.lays189 blk off cap zs w hH hblk hsz
end Go.Proofs
namespace Go.Proofs.YtekkngkphejfcaaDoor
open Go.RowKit
def insI (a : Int) : List Int → List Int
  | [] => [a]
  | b :: l => if a ≤ b then a :: b :: l else b :: insI a l
def sortI : List Int → List Int
  | [] => []
  | a :: l => insI a (sortI l)
theorem insI_perm (a : Int) : ∀ l : List Int, (insI a l).Perm (a :: l)
  | [] => List.Perm.refl _
  | b :: l => by
    unfold insI
    split
    · exact List.Perm.refl _
    · exact ((insI_perm a l).cons b).trans (List.Perm.swap a b l)
theorem sortI_perm : ∀ l : List Int, (sortI l).Perm l
  | [] => List.Perm.refl _
  | a :: l => (insI_perm a _).trans ((sortI_perm l).cons a)
theorem insI_sorted (a : Int) : ∀ l : List Int, l.Pairwise (· ≤ ·) → (insI a l).Pairwise (· ≤ ·)
  | [], _ => List.pairwise_singleton _ _
  | b :: l, h => by
    have h' := List.pairwise_cons.1 h
    unfold insI
    split
    · rename_i hab
      refine List.pairwise_cons.2 ⟨fun x hx => ?_, h⟩
      rcases List.mem_cons.1 hx with rfl | hx
      · exact hab
      · exact Int.le_trans hab (h'.1 x hx)
    · rename_i hab
      refine List.pairwise_cons.2 ⟨fun x hx => ?_, insI_sorted a l h'.2⟩
      rcases List.mem_cons.1 ((insI_perm a l).mem_iff.1 hx) with rfl | hx
      · omega
      · exact h'.1 x hx
theorem sortI_sorted : ∀ l : List Int, (sortI l).Pairwise (· ≤ ·)
  | [] => List.Pairwise.nil
  | a :: l => insI_sorted a _ (sortI_sorted l)
theorem sortI_eq (l : List Int) : (l.mergeSort fun x y => decide (x ≤ y)) = sortI l := by
  refine List.Perm.eq_of_pairwise (le := (· ≤ ·)) (fun a b _ _ h1 h2 => Int.le_antisymm h1 h2) ?_ (sortI_sorted l) ((List.mergeSort_perm l _).trans (sortI_perm l).symm)
  have := List.pairwise_mergeSort (le := fun x y : Int => decide (x ≤ y)) (fun a b c h1 h2 => by simp at h1 h2 ⊢; omega) (fun a b => by simp; omega) l
  exact this.imp fun h => by simpa using h
theorem sortI_length (l : List Int) : (sortI l).length = l.length := (sortI_perm l).length_eq
theorem heap_put {w : World} {b o : Nat} {l l' : List Int} {cs : Array Value} {t : TypeId} {z : Nat × Nat} (h : w.heap[b]? = some (.cells cs t z)) (hl : l.length = l'.length) (n : Nat) (os : Array Obj) :
    ∃ cs', (Sort.grow (Sort.putRow (Value.int .i64) (Sort.ahead w n) b o l'.toArray) os).heap[b]? = some (.cells cs' t z) ∧ cs'.size = cs.size ∧ ∀ j, j < l.length → o + j < cs.size → cs'[o + j]? = some (.int .i64 (l'.getD j 0)) := by
  have hb : b < w.heap.size := (Array.getElem?_eq_some_iff.1 h).1
  refine ⟨Sort.putCells (Value.int .i64) o l'.toArray cs, ?_, by simp [Sort.putCells], fun j hj hs => ?_⟩
  · simp only [Sort.grow, Sort.putRow, Sort.mapBlock, Sort.ahead]
    rw [Array.getElem?_append_left (by simpa using hb), Array.getElem?_modify, if_pos rfl, h]
    rfl
  · simp only [Sort.putCells, Array.getElem?_mapIdx]
    rw [Array.getElem?_eq_getElem hs]
    simp only [Option.map_some]
    rw [if_pos ⟨by omega, by simp; omega⟩]
    have : o + j - o = j := by omega
    rw [this]
    have hj' : j < l'.length := by omega
    simp [hj', List.getD_eq_getElem?_getD]
theorem upd_put {w : World} {b o : Nat} (hb : b < w.heap.size) (d : Array Int) (n : Nat) (os : Array Obj) : Upd (fun k => k = b) w (Sort.grow (Sort.putRow (Value.int .i64) (Sort.ahead w n) b o d) os) := by
  refine ⟨rfl, rfl, rfl, by simp [Sort.ahead], fun k hk hne => ?_⟩
  simp only [Sort.grow, Sort.putRow, Sort.mapBlock, Sort.ahead]
  rw [Array.getElem?_append_left (by simpa using hk), Array.getElem?_modify, if_neg (fun e => hne e.symm)]
theorem sort_es (l : List Int) {n : Nat} (hn : n = l.length) (hlim : l.length ≤ LIM) : ES Tryd.prog GG 84 [.msl 0 1 0 n] [some (.ints l)] (.tup 0 fun j => ([] : List DV).getD j .any) [some (.ints (sortI l))] false := by
  subst hn
  refine ⟨⟨_, Tryd.func84, by decide, rfl⟩, fun N ρ w args HR hargs => ?_⟩
  obtain ⟨p, hp, hob⟩ := HR.obj 0 _ rfl
  have hob : RowAt w p l.length fun j u => u = .int .i64 (l.getD j 0) := hob
  have h0 := hargs.2 0 (by simp)
  obtain ⟨p', cap, hp', hv, hcap, hlb, hroom⟩ := h0
  have ep : p' = p := Option.some.inj (hp'.symm.trans hp)
  subst ep
  have hsz : args.size = 1 := by have := hargs.1; simpa using this.symm
  have ha : args = #[.slice (some ⟨p'.blk, p'.off, none⟩) l.length cap] := by
    apply Array.ext
    · simp [hsz]
    · intro i h1 h2
      have : i = 0 := by omega
      subst this
      have e : args.getD 0 undef = args[0] := by simp [Array.getD, hsz]
      rw [e] at hv
      rw [hv]; simp
  have hH : Sort.Holds (Value.int .i64) w p'.blk p'.off l.toArray := fun j hj => by
    have hj : j < l.length := by simpa using hj
    obtain ⟨u, c1, c2⟩ := hob.cell hj
    refine ⟨by rw [c1, c2]; simp [hj, List.getD_eq_getElem?_getD], hob.frozen _⟩
  obtain ⟨hfoot, cs, t, hcs, hs1, hs2, _⟩ := hob
  have hb : p'.blk < w.heap.size := (Array.getElem?_eq_some_iff.1 hcs).1
  subst ha
  refine (Tryd.slices_Sort_int p'.blk p'.off cap l w hH hb (by unfold LIM at hlim; omega)).mono ?_
  rintro e w' ⟨rfl, m, os, rfl⟩
  rw [sortI_eq]
  obtain ⟨cs', k1, k2, k3⟩ := heap_put (o := p'.off) hcs (sortI_length l).symm m os
  have hu : Upd p'.foot w (Sort.grow (Sort.putRow (Value.int .i64) (Sort.ahead w m) p'.blk p'.off (sortI l).toArray) os) := by rw [hfoot]; exact upd_put (o := p'.off) hb (sortI l).toArray m os
  show ∃ v, Ending.returned (.tuple #[]) = Ending.returned v ∧ Got Tryd.prog GG N _ ρ w false _ _ v (Sort.grow (Sort.putRow (Value.int .i64) (Sort.ahead w m) p'.blk p'.off (sortI l).toArray) os)
  refine ⟨_, rfl, ⟨⟨ρ, HR.write (o' := .ints (sortI l)) rfl hp hu (fun b hb => ?_) ?_, ⟨#[], rfl, rfl, fun j hj => absurd hj (Nat.not_lt_zero j)⟩, Step.write rfl hp hu, fun _ _ h => h⟩, fun h => by cases h⟩⟩
  · rw [hfoot] at hb
    exact .cells (c := cs') (t := t) (z := (0, 0)) (by rw [show b = p'.blk from hb]; exact k1)
  · refine ⟨hfoot, cs', t, k1, by rw [k2, sortI_length]; exact hs1, by rw [k2]; exact hs2, fun j hj => ?_⟩
    rw [sortI_length] at hj
    exact ⟨_, k3 j hj (by omega), rfl⟩
end Go.Proofs.YtekkngkphejfcaaDoor
namespace Go.Proofs.YtekkngkphejfcaaDoor
open Go.RowKit
set_option maxRecDepth 100000
set_option maxHeartbeats 40000000
inductive appendSeq_b6T where
  | s0
  | s1 (r6s1_1_0 : Nat) (r6s1_2 : List Int)
def appendSeq_b6_H : appendSeq_b6T → DH
  | .s0 => [none, some (.cells [.nils])]
  | .s1 r6s1_1_0 r6s1_2 => [none, some (.cells [.msl 2 1 0 r6s1_1_0]), some (.ints r6s1_2)]
def appendSeq_b6_e0 (n : Nat) (e6 : Int) : Option appendSeq_b6T :=
  if (0 = 0 ∧ 1 = ([e6] : List Int).length) ∧ 0 < ([e6] : List Int).length ∧ ([e6] : List Int).length ≤ LIM then
   some (.s1 (([e6] : List Int).length) ([e6] : List Int))
  else none
def appendSeq_b6_e1 (n : Nat) (e6 : Int) (r6s1_1_0 : Nat) (r6s1_2 : List Int) : Option appendSeq_b6T :=
  if (0 = 0 ∧ 1 = ([e6] : List Int).length) ∧ (0 = 0 ∧ r6s1_1_0 = r6s1_2.length) ∧ r6s1_2.length + ([e6] : List Int).length ≤ LIM then
   some (.s1 (r6s1_2.length + ([e6] : List Int).length) (r6s1_2 ++ ([e6] : List Int)))
  else none
def appendSeq_b6_l0 (n : Nat) (e6 : Int) : appendSeq_b6T → Option appendSeq_b6T
  | .s0 => appendSeq_b6_e0 n e6
  | .s1 r6s1_1_0 r6s1_2 => appendSeq_b6_e1 n e6 r6s1_1_0 r6s1_2
def appendSeq_b6 (n : Nat) (e6 : Int) (s : appendSeq_b6T) : Option appendSeq_b6T := appendSeq_b6_l0 n e6 s
theorem appendSeq_b6_ok (n : Nat) (l B : Nat) (N : Yard Tryd.prog GG 2) (e6 : Int) (s : appendSeq_b6T) (r : appendSeq_b6T) (h : appendSeq_b6 n e6 s = some r) : TrA Tryd.prog GG (Fence.wide.inRound l) (some B) 2 N (RndQ 2 [] 0 (appendSeq_b6_H r)) (rgA Tryd.f85 6) (rgB Tryd.f85 6) ⟨frm 13 [(2, .ref 1 0), (6, .it 0), (7, .i e6)], appendSeq_b6_H s⟩ := by
  unfold appendSeq_b6 at h
  cases s with
  | s0 =>
    have h : appendSeq_b6_e0 n e6 = some r := h
    unfold appendSeq_b6_e0 at h
    refine ag sch0 [0, 1] H0 (frm 13 [(2, .ref 1 0), (5, .i e6)]) [none, some (.cells [.nils])] ?_
    intro N
    obtain ⟨b6_g0, h⟩ := guardSome h
    cases h
    exact rr sch0 [0, 1, 3] rfl (H0.g b6_g0 |>.t)
  | s1 r6s1_1_0 r6s1_2 =>
    have h : appendSeq_b6_e1 n e6 r6s1_1_0 r6s1_2 = some r := h
    unfold appendSeq_b6_e1 at h
    refine ag sch0 [0, 1, 2] H0 (frm 13 [(2, .ref 1 0), (5, .i e6)]) [none, some (.cells [.msl 2 1 0 r6s1_1_0]), some (.ints r6s1_2)] ?_
    intro N
    obtain ⟨b6_g0, h⟩ := guardSome h
    cases h
    exact rr sch0 [0, 1, 4] rfl (H0.g b6_g0 |>.t)
def appendSeq_l0 (n : Nat) (l : List Int) : Option ((List Int)) :=
  (foldO (appendSeq_b6 n) l (.s0)).bind fun y1 =>
   match y1 with
   | .s0 =>
    none
   | .s1 y1_1_0 y1_1_1 =>
    if y1_1_0 = y1_1_1.length then
     some y1_1_1
    else none
def appendSeq (n : Nat) (l : List Int) : Option ((List Int)) := appendSeq_l0 n l
theorem appendSeq_ok {n : Nat} {l : List Int} {r : (List Int)} (h : appendSeq n l = some r) : ES Tryd.prog GG 85 [.nils, .it 0] [some (.iter ((l).map encI))] (.msl 1 1 0 r.length) [none, some (.ints r)] false := by
  refine ot Tryd.func85 fun B N => ?_
  unfold appendSeq at h
  unfold appendSeq_l0 at h
  obtain ⟨y1, hy1, h⟩ := bindSome h
  refine gs sch0 [0, 1] H0 (atT (bodyC Tryd.f85) 6 []) (frm 13 [(2, .ref 1 0), (6, .it 0)]) [some (.iter ((l).map encI)), some (.cells [.nils])] ?_
  refine r0 0 6 #[7] encI 2 hy1 (appendSeq_b6_ok n) ?_
  cases y1 with
  | s0 =>
    dsimp only at h
    cases h
  | s1 y1_1_0 y1_1_1 =>
    dsimp only at h
    obtain ⟨g0, h⟩ := guardSome h
    obtain rfl := Option.some.inj h
    exact el sch0 [4] [0, 2] H0 [] H0 [.msl 1 1 0 y1_1_0] (DLe.mslN g0)
def collect_l0 (n : Nat) (l : List Int) : Option ((List Int)) :=
  (appendSeq n l).bind fun y1 =>
   some y1
def collect (n : Nat) (l : List Int) : Option ((List Int)) := collect_l0 n l
theorem collect_ok {n : Nat} {l : List Int} {r : (List Int)} (h : collect n l = some r) : ES Tryd.prog GG 83 [.it 0] [some (.iter ((l).map encI))] (.msl 1 1 0 r.length) [none, some (.ints r)] false := by
  refine ot Tryd.func83 fun B N => ?_
  unfold collect at h
  unfold collect_l0 at h
  obtain ⟨y1, hy1, h⟩ := bindSome h
  obtain rfl := Option.some.inj h
  exact el sch0 [2] [0, 1] (H0.c (em (appendSeq_ok hy1) [0] [some (.iter ((l).map encI))])) [] H0 [.msl 1 1 0 y1.length] (DLe.mslN rfl)
def sorted_l0 (n : Nat) (l : List Int) : Option ((List Int)) :=
  (collect n l).bind fun y1 =>
   if y1.length ≤ LIM then
    if y1.length = (sortI y1).length then
     some (sortI y1)
    else none
   else none
def sorted (n : Nat) (l : List Int) : Option ((List Int)) := sorted_l0 n l
theorem sorted_ok {n : Nat} {l : List Int} {r : (List Int)} (h : sorted n l = some r) : ES Tryd.prog GG 81 [.it 0] [some (.iter ((l).map encI))] (.msl 1 1 0 r.length) [none, some (.ints r)] false := by
  refine ot Tryd.func81 fun B N => ?_
  unfold sorted at h
  unfold sorted_l0 at h
  obtain ⟨y1, hy1, h⟩ := bindSome h
  obtain ⟨g0, h⟩ := guardSome h
  obtain ⟨g1, h⟩ := guardSome h
  cases h
  exact el sch0 [2] [0, 1] (H0.c (em (collect_ok hy1) [0] [some (.iter ((l).map encI))]) |>.c (em (sort_es y1 (n := y1.length) (Eq.refl y1.length) g0) [1] [none, some (.ints y1)])) [] H0 [.msl 1 1 0 y1.length] (DLe.mslN g1)
def component_l0 (n : Nat) (g_ : List (List Int)) (in_ : List Bool) (start : Int) : Option ((List Int) × Int) :=
  (gvalid n g_ ([in_] : List (List Bool))).bind fun y1 =>
   bif (y1 != 0) then
    some (([] : List Int), y1)
   else
    bif (decide (start < 0)) then
     some (([] : List Int), 1)
    else
     bif (decide (start ≥ (g_.length : Int))) then
      some (([] : List Int), 1)
     else
      if 0 ≤ start ∧ start < (in_.length : Int) then
       bif (!(in_.getD ((start).toNat) false)) then
        some (([] : List Int), 1)
       else
        (reach n g_ start in_).bind fun y2 =>
         (sorted n y2).bind fun y3 =>
          some (y3, 0)
      else none
def component (n : Nat) (g_ : List (List Int)) (in_ : List Bool) (start : Int) : Option ((List Int) × Int) := component_l0 n g_ in_ start
theorem component_ok {n : Nat} {g_ : List (List Int)} {in_ : List Bool} {start : Int} {r : (List Int) × Int} (h : component n g_ in_ start = some r) : ES Tryd.prog GG 76 [.sl 1 g_.length (rowE intsC g_), .bools in_, .i start] [] (.tup 2 (L1 [.ints r.1, .i r.2])) [] true := by
  refine ot Tryd.func76 fun B N => ?_
  unfold component at h
  unfold component_l0 at h
  obtain ⟨y1, hy1, h⟩ := bindSome h
  have p := H0.a 10 0 1 (rows_build (c := boolsC) (L := ([in_] : List (List Bool))) (vals := [.bools in_]) rfl ⟨⟨_, rfl, ⟨dle_refl, trivial⟩⟩, trivial⟩) |>.z 10 0 |>.g (Eq.refl 1) |>.c (fb (gvalid_ok hy1) [none])
  rcases bifSome h with ⟨c0, h⟩ | ⟨c0, h⟩
  · cases h
    exact el sch0 [6, 7] [] (p.b 13 c0) [] H0 [.nils, .i y1] (DLe.tupL (l := [.nils, .i y1]) (l' := [.ints ([] : List Int), .i y1]) rfl ⟨DLe.ints_nil, (DLe.refl _), trivial⟩)
  · have p := p.b 13 c0
    rcases bifSome h with ⟨c1, h⟩ | ⟨c1, h⟩
    · cases h
      exact el sch0 [6, 7] [] (p.b 16 c1) [] H0 [.nils, .i 1] (DLe.tupL (l := [.nils, .i 1]) (l' := [.ints ([] : List Int), .i 1]) rfl ⟨DLe.ints_nil, (DLe.refl _), trivial⟩)
    · have p := p.b 16 c1
      rcases bifSome h with ⟨c2, h⟩ | ⟨c2, h⟩
      · cases h
        exact el sch0 [6, 7] [] (p.b 21 c2) [] H0 [.nils, .i 1] (DLe.tupL (l := [.nils, .i 1]) (l' := [.ints ([] : List Int), .i 1]) rfl ⟨DLe.ints_nil, (DLe.refl _), trivial⟩)
      · obtain ⟨g0, h⟩ := guardSome h
        have p := p.b 21 c2 |>.g g0
        rcases bifSome h with ⟨c3, h⟩ | ⟨c3, h⟩
        · cases h
          exact el sch0 [6, 7] [] (p.b 28 c3) [] H0 [.nils, .i 1] (DLe.tupL (l := [.nils, .i 1]) (l' := [.ints ([] : List Int), .i 1]) rfl ⟨DLe.ints_nil, (DLe.refl _), trivial⟩)
        · obtain ⟨y2, hy2, h⟩ := bindSome h
          obtain ⟨y3, hy3, h⟩ := bindSome h
          cases h
          exact ez sch0 [6, 7] [2] (p.b 28 c3 |>.c (reachM_iter hy2 [none]) |>.c (em (sorted_ok hy3) [1] [none, some (.iter ((y2).map encI))])) [0] (H0.g (Eq.refl y3.length))
def t_parts_11 : ST := .rd 0 (.rd 1 (.ef 2 (.ef 3 (.fin [] [4, 5]) (.no)) (.no)))
theorem s_parts_11 : TOk (regF Tryd.f79 11) [2] t_parts_11 := by unfold TOk; kernel_rfl
def sch_parts : Sch := fun i => match i with
  | 11 => .tre [2] t_parts_11
  | _ => .no
def hp_parts_0 (g_ : List (List Int)) (o2_0 : Int) (y1 o1 : List Int) : DH := [some (.cells [.msl 3 1 0 g_.length]), some (.cells [.i (o2_0 + 1)]), some (.iter ((y1).map encI)), some (.ints o1)]
def tgt_parts_1 (g_ : List (List Int)) (o1 : List Int) (o2_0 : Int) : St := ⟨(frm 42 [(4, .ref 0 0), (5, .ref 2 0)]), ([some (.cells [.msl 1 1 0 g_.length]), some (.ints o1), some (.cells [.i o2_0])] : DH)⟩
inductive parts_b33T where
  | s0 (r33s0_3 : List Int)
def parts_b33_H (g_ : List (List Int)) (in_ : List Bool) (x13 o2_0 : Int) : parts_b33T → DH
  | .s0 r33s0_3 => [some (.cells [.msl 3 1 0 g_.length]), some (.cells [.i (o2_0 + 1)]), none, some (.ints r33s0_3)]
def parts_b33_e0 (n : Nat) (g_ : List (List Int)) (in_ : List Bool) (x13 o2_0 e33 : Int) (r33s0_3 : List Int) : Option parts_b33T :=
  if (0 ≤ e33 ∧ e33 < (g_.length : Int)) ∧ 0 + ((e33).toNat) < r33s0_3.length then
   some (.s0 (r33s0_3.set (0 + ((e33).toNat)) (o2_0 + 1)))
  else none
def parts_b33_l0 (n : Nat) (g_ : List (List Int)) (in_ : List Bool) (x13 o2_0 e33 : Int) : parts_b33T → Option parts_b33T
  | .s0 r33s0_3 => parts_b33_e0 n g_ in_ x13 o2_0 e33 r33s0_3
def parts_b33 (n : Nat) (g_ : List (List Int)) (in_ : List Bool) (x13 o2_0 e33 : Int) (s : parts_b33T) : Option parts_b33T := parts_b33_l0 n g_ in_ x13 o2_0 e33 s
theorem parts_b33_ok (n : Nat) (g_ : List (List Int)) (in_ : List Bool) (x13 o2_0 : Int) (l B : Nat) (N : Yard Tryd.prog GG 3) (e33 : Int) (s : parts_b33T) (r : parts_b33T) (h : parts_b33 n g_ in_ x13 o2_0 e33 s = some r) : TrA Tryd.prog GG (Fence.wide.inRound l) (some B) 3 N (RndQ 3 [] 0 (parts_b33_H g_ in_ x13 o2_0 r)) (rgA Tryd.f79 33) (rgB Tryd.f79 33) ⟨frm 42 [(0, .sl 1 g_.length (rowE intsC g_)), (1, .bools in_), (4, .ref 0 0), (5, .ref 1 0), (12, .i (g_.length : Int)), (13, .i x13), (33, .it 2), (34, .i e33)], parts_b33_H g_ in_ x13 o2_0 s⟩ := by
  unfold parts_b33 at h
  cases s with
  | s0 r33s0_3 =>
    have h : parts_b33_e0 n g_ in_ x13 o2_0 e33 r33s0_3 = some r := h
    unfold parts_b33_e0 at h
    refine ag sch_parts [0, 1, 2, 3] H0 (frm 42 [(4, .ref 0 0), (5, .ref 1 0), (7, .i e33)]) [some (.cells [.msl 3 1 0 g_.length]), some (.cells [.i (o2_0 + 1)]), none, some (.ints r33s0_3)] ?_
    intro N
    obtain ⟨⟨b33_g0, b33_g1⟩, h⟩ := guardSome h
    cases h
    exact rr sch_parts [0, 1, 2, 3] rfl (H0.g b33_g0 |>.g b33_g1)
inductive partsPt where
  | l1 (x13 : Int) (o1 : List Int) (o2_0 : Int)
def parts_l1 (n : Nat) (self : partsPt → Option ((List Int) × Int)) (g_ : List (List Int)) (in_ : List Bool) (x13 : Int) (o1 : List Int) (o2_0 : Int) : Option ((List Int) × Int) :=
  bif (decide (x13 < (g_.length : Int))) then
   if 0 ≤ x13 ∧ x13 < (in_.length : Int) then
    bif (!(in_.getD ((x13).toNat) false)) then
     if R64 (x13 + 1) then
      self (.l1 (x13 + 1) o1 o2_0)
     else none
    else
     if (0 ≤ x13 ∧ x13 < (g_.length : Int)) ∧ 0 + ((x13).toNat) < o1.length then
      bif (decide ((o1.getD (0 + ((x13).toNat)) 0) > 0)) then
       if R64 (x13 + 1) then
        self (.l1 (x13 + 1) o1 o2_0)
       else none
      else
       if R64 (o2_0 + 1) then
        (reach n g_ x13 in_).bind fun y1 =>
         (foldO (parts_b33 n g_ in_ x13 o2_0) y1 (.s0 o1)).bind fun y2 =>
          match y2 with
          | .s0 y2_0_0 =>
           if R64 (x13 + 1) then
            self (.l1 (x13 + 1) y2_0_0 (o2_0 + 1))
           else none
       else none
     else none
   else none
  else
   if g_.length = o1.length then
    some (o1, o2_0)
   else none
def parts_l0 (n : Nat) (self : partsPt → Option ((List Int) × Int)) (g_ : List (List Int)) (in_ : List Bool) : Option ((List Int) × Int) :=
  if ((g_.length : Int) : Int) = (g_.length : Int) ∧ 0 ≤ (g_.length : Int) ∧ ((g_.length : Int) : Int) ≤ 1000000000000 then
   self (.l1 0 (List.replicate g_.length (0 : Int)) 0)
  else none
def parts_m (g_ : List (List Int)) (in_ : List Bool) : Nat → partsPt → Option ((List Int) × Int)
  | 0, _ => none
  | n + 1, .l1 x13 o1 o2_0 => parts_l1 n (parts_m g_ in_ n) g_ in_ x13 o1 o2_0
def parts (n : Nat) (g_ : List (List Int)) (in_ : List Bool) : Option ((List Int) × Int) := parts_l0 n (parts_m g_ in_ n) g_ in_
/-- What the points stand for. -/
def parts_at (n : Nat) (B : Nat) (N : Yard Tryd.prog GG 0) (g_ : List (List Int)) (in_ : List Bool) (r : (List Int) × Int) : partsPt → Prop
  | .l1 x13 o1 o2_0 => ∀ m0 : Nat, n ≤ m0 → TrK Tryd.prog GG Fence.wide (some B) 0 N (Fin Tryd.prog Tryd.f79 0 (.tup 2 (L1 [.ints r.1, .i r.2])) []) (toN m0 (atNC (bodyC Tryd.f79) 0 [])) ⟨frm 42 [(0, .sl 1 g_.length (rowE intsC g_)), (1, .bools in_), (4, .ref 0 0), (5, .ref 2 0), (12, .i (g_.length : Int)), (13, .i x13)], [some (.cells [.msl 1 1 0 g_.length]), some (.ints o1), some (.cells [.i o2_0])]⟩
theorem parts_all (B : Nat) (N : Yard Tryd.prog GG 0) (g_ : List (List Int)) (in_ : List Bool) : ∀ (n : Nat) (pt : partsPt) (r : (List Int) × Int), parts_m g_ in_ n pt = some r → parts_at n B N g_ in_ r pt := by
  intro n; induction n with
  | zero => intro _ _ h; cases h
  | succ n hself =>
   intro pt r h
   cases pt
   case l1 x13 o1 o2_0 =>
    have h : parts_l1 n (parts_m g_ in_ n) g_ in_ x13 o1 o2_0 = some r := h
    intro m0 hm0
    refine rd hm0 fun m0 hm0 => ?_
    unfold parts_l1 at h
    rcases bifSome h with ⟨c0, h⟩ | ⟨c0, h⟩
    · obtain ⟨g0, h⟩ := guardSome h
      have p := H0.b 14 c0 |>.g g0
      rcases bifSome h with ⟨c1, h⟩ | ⟨c1, h⟩
      · obtain ⟨g1, h⟩ := guardSome h
        exact gg sch_parts [0, 1, 2] (p.b 20 c1 |>.w 39 g1) (hself _ _ h m0 hm0)
      · obtain ⟨⟨g1, g2⟩, h⟩ := guardSome h
        have p := p.b 20 c1 |>.g g1 |>.g g2
        rcases bifSome h with ⟨c2, h⟩ | ⟨c2, h⟩
        · obtain ⟨g3, h⟩ := guardSome h
          exact gg sch_parts [0, 1, 2] (p.b 26 c2 |>.w 39 g3) (hself _ _ h m0 hm0)
        · obtain ⟨g3, h⟩ := guardSome h
          obtain ⟨y1, hy1, h⟩ := bindSome h
          obtain ⟨y2, hy2, h⟩ := bindSome h
          refine gs sch_parts [0, 2, 3, 1] (p.b 26 c2 |>.w 29 g3 |>.t |>.c (reachM_iter hy1 [some (.cells [.msl 1 1 0 g_.length]), some (.ints o1), some (.cells [.i (o2_0 + 1)])])) (atT (bodyC Tryd.f79) 33 [m0]) (frm 42 [(0, .sl 1 g_.length (rowE intsC g_)), (1, .bools in_), (4, .ref 0 0), (5, .ref 1 0), (12, .i (g_.length : Int)), (13, .i x13), (33, .it 2)]) (hp_parts_0 g_ o2_0 y1 o1) ?_
          refine r0 2 33 #[34] encI 3 hy2 (parts_b33_ok n g_ in_ x13 o2_0) ?_
          cases y2 with
          | s0 y2_0_0 =>
            dsimp only at h
            obtain ⟨g4, h⟩ := guardSome h
            exact gg sch_parts [0, 3, 1] (H0.w 39 g4) (hself _ _ h m0 hm0)
    · obtain ⟨g0, h⟩ := guardSome h
      cases h
      exact ez (tg := [([(2, 0)], (tgt_parts_1 g_ o1 o2_0))]) sch_parts [4, 5] [0, 1, 2] (H0.b 14 c0 |>.g s_parts_11 |>.t |>.t |>.g (Eq.refl (tgt_parts_1 g_ o1 o2_0))) [1] (H0.g g0)
theorem parts_ok {n : Nat} {g_ : List (List Int)} {in_ : List Bool} {r : (List Int) × Int} (h : parts n g_ in_ = some r) : ES Tryd.prog GG 79 [.sl 1 g_.length (rowE intsC g_), .bools in_] [] (.tup 2 (L1 [.ints r.1, .i r.2])) [] true := by
  refine ot Tryd.func79 fun B N => ?_
  have hself := parts_all B N g_ in_ n
  unfold parts at h
  unfold parts_l0 at h
  obtain ⟨g0, h⟩ := guardSome h
  exact gg sch_parts [0, 2, 1] (H0.g g0 |>.t) (en n (hself _ _ h n (Nat.le_refl _)))
end Go.Proofs.YtekkngkphejfcaaDoor
namespace Go.Proofs.YtekkngkphejfcaaDoor
open Go.RowKit
set_option maxRecDepth 100000
set_option maxHeartbeats 40000000
def without_l0 (n : Nat) (n_ : Int) (inn : List Bool) : Option ((List Bool)) :=
  (cloneB n inn).bind fun y1 =>
   if (0 ≤ n_ ∧ n_ < (y1.length : Int)) ∧ 0 + ((n_).toNat) < y1.length then
    if y1.length = (y1.set (0 + ((n_).toNat)) false).length then
     some (y1.set (0 + ((n_).toNat)) false)
    else none
   else none
def without (n : Nat) (n_ : Int) (inn : List Bool) : Option ((List Bool)) := without_l0 n n_ inn
theorem without_ok {n : Nat} {n_ : Int} {inn : List Bool} {r : (List Bool)} (h : without n n_ inn = some r) : ES Tryd.prog GG 78 [.i n_, .fp 1 (L1 [.bools inn])] [] (.msl 0 1 0 r.length) [some (.bools r)] true := by
  refine ot Tryd.func78 fun B N => ?_
  unfold without at h
  unfold without_l0 at h
  obtain ⟨y1, hy1, h⟩ := bindSome h
  obtain ⟨⟨g0, g1⟩, h⟩ := guardSome h
  obtain ⟨g2, h⟩ := guardSome h
  cases h
  exact el sch0 [3] [0] (H0.c (ES.snapNew (ds := [.bools inn]) (cloneB_ok hy1) [] (allSnap_plain (by kernel_rfl)) rfl) |>.g g0 |>.g g1) [] H0 [.msl 0 1 0 y1.length] (DLe.mslN g2)
theorem s_splits_16 : SOk (regF Tryd.f68 16) [] (List.range 7) [] := by unfold SOk; kernel_rfl
def sch_splits : Sch := fun i => match i with
  | 16 => .ord [] (List.range 7) []
  | _ => .no
def hp_splits_0 (in_ some_ : List Bool) (at_ : Int) : DH := [some (.cells [.bools in_]), some (.cells [.bools some_]), some (.cells [.i at_]), some (.cells [.bool false]), none]
def hp_splits_1 (in_ some_ : List Bool) (at_ : Int) : DH := [some (.cells [.bools in_]), some (.cells [.bools some_]), some (.cells [.i at_]), some (.cells [.bool false]), none, none]
def hp_splits_2 (in_ some_ : List Bool) (at_ : Int) (y3 : (List Int) × Int) : DH := [some (.cells [.bools in_]), some (.cells [.bools some_]), some (.cells [.i at_]), some (.cells [.bool false]), none, none, some (.cells [.ints y3.1]), some (.cells [.i 0])]
def hp_splits_3 (some_ : List Bool) (at_ : Int) (y3 : (List Int) × Int) (y4 : List Int) : DH := [some (.cells [.bools some_]), some (.cells [.i at_]), some (.cells [.bool false]), some (.cells [.ints y3.1]), some (.cells [.i 0]), some (.iter ((y4).map encI))]
def hp_splits_4 (some_ : List Bool) (at_ : Int) (r48s0_2_0 : Bool) (y3 : (List Int) × Int) (r48s0_4_0 : Int) : DH := [some (.cells [.bools some_]), some (.cells [.i at_]), some (.cells [.bool r48s0_2_0]), some (.cells [.ints y3.1]), some (.cells [.i r48s0_4_0]), none]
inductive splits_b48T where
  | s0 (r48s0_2_0 : Bool) (r48s0_4_0 : Int)
def splits_b48_H (some_ : List Bool) (at_ : Int) (y3 : (List Int) × Int) : splits_b48T → DH
  | .s0 r48s0_2_0 r48s0_4_0 => [some (.cells [.bools some_]), some (.cells [.i at_]), some (.cells [.bool r48s0_2_0]), some (.cells [.ints y3.1]), some (.cells [.i r48s0_4_0]), none]
def splits_b48_e0 (n : Nat) (some_ : List Bool) (at_ : Int) (y3 : (List Int) × Int) (e48 : Int) (r48s0_2_0 : Bool) (r48s0_4_0 : Int) : Option (splits_b48T × Nat) :=
  bif (e48 == at_) then
   some (.s0 r48s0_2_0 r48s0_4_0, 0)
  else
   if 0 ≤ e48 ∧ e48 < (some_.length : Int) then
    bif (!(some_.getD ((e48).toNat) false)) then
     some (.s0 r48s0_2_0 r48s0_4_0, 0)
    else
     bif (r48s0_4_0 == 0) then
      if 0 ≤ e48 ∧ e48 < (y3.1.length : Int) then
       some (.s0 r48s0_2_0 (y3.1.getD ((e48).toNat) 0), 0)
      else none
     else
      if 0 ≤ e48 ∧ e48 < (y3.1.length : Int) then
       bif ((y3.1.getD ((e48).toNat) 0) != r48s0_4_0) then
        some (.s0 true r48s0_4_0, 1)
       else
        some (.s0 r48s0_2_0 r48s0_4_0, 0)
      else none
   else none
def splits_b48_l0 (n : Nat) (some_ : List Bool) (at_ : Int) (y3 : (List Int) × Int) (e48 : Int) : splits_b48T → Option (splits_b48T × Nat)
  | .s0 r48s0_2_0 r48s0_4_0 => splits_b48_e0 n some_ at_ y3 e48 r48s0_2_0 r48s0_4_0
def splits_b48 (n : Nat) (some_ : List Bool) (at_ : Int) (y3 : (List Int) × Int) (e48 : Int) (s : splits_b48T) : Option (splits_b48T × Nat) := splits_b48_l0 n some_ at_ y3 e48 s
theorem splits_b48_ok (n : Nat) (some_ : List Bool) (at_ : Int) (y3 : (List Int) × Int) (l B : Nat) (N : Yard Tryd.prog GG 6) (e48 : Int) (s : splits_b48T) (r : splits_b48T × Nat) (h : splits_b48 n some_ at_ y3 e48 s = some r) : TrA Tryd.prog GG (Fence.wide.inRound l) (some B) 6 N (RndQ 6 [.exit 0] r.2 (splits_b48_H some_ at_ y3 r.1)) (rgA Tryd.f68 48) (rgB Tryd.f68 48) ⟨frm 76 [(6, .ref 0 0), (7, .ref 1 0), (8, .ref 2 0), (11, .ref 3 0), (13, .ref 4 0), (48, .it 5), (49, .i e48)], splits_b48_H some_ at_ y3 s⟩ := by
  unfold splits_b48 at h
  cases s with
  | s0 r48s0_2_0 r48s0_4_0 =>
    have h : splits_b48_e0 n some_ at_ y3 e48 r48s0_2_0 r48s0_4_0 = some r := h
    unfold splits_b48_e0 at h
    refine ag sch_splits [0, 1, 2, 3, 4, 5] H0 (frm 76 [(6, .ref 0 0), (7, .ref 1 0), (8, .ref 2 0), (11, .ref 3 0), (13, .ref 4 0), (14, .i e48)]) (hp_splits_4 some_ at_ r48s0_2_0 y3 r48s0_4_0) ?_
    intro N
    rcases bifSome h with ⟨b48_c0, h⟩ | ⟨b48_c0, h⟩
    · cases h
      exact rr sch_splits [0, 1, 2, 3, 4, 5] rfl (H0.b 53 b48_c0)
    · obtain ⟨b48_g0, h⟩ := guardSome h
      have p := H0.b 53 b48_c0 |>.g b48_g0
      rcases bifSome h with ⟨b48_c1, h⟩ | ⟨b48_c1, h⟩
      · cases h
        exact rr sch_splits [0, 1, 2, 3, 4, 5] rfl (p.b 59 b48_c1)
      · have p := p.b 59 b48_c1
        rcases bifSome h with ⟨b48_c2, h⟩ | ⟨b48_c2, h⟩
        · obtain ⟨b48_g1, h⟩ := guardSome h
          cases h
          exact rr sch_splits [0, 1, 2, 3, 4, 5] rfl (p.b 63 b48_c2 |>.g b48_g1 |>.t)
        · obtain ⟨b48_g1, h⟩ := guardSome h
          have p := p.b 63 b48_c2 |>.g s_splits_16 |>.g b48_g1
          rcases bifSome h with ⟨b48_c3, h⟩ | ⟨b48_c3, h⟩
          · cases h
            exact rr sch_splits [0, 1, 2, 3, 4, 5] rfl (p.b 74 b48_c3 |>.t)
          · cases h
            exact rr sch_splits [0, 1, 2, 3, 4, 5] rfl (p.b 74 b48_c3)
def splits_l0 (n : Nat) (g_ : List (List Int)) (in_ some_ : List Bool) (at_ : Int) : Option (Bool × Int) :=
  (gvalid n g_ ([in_, some_] : List (List Bool))).bind fun y1 =>
   bif (y1 != 0) then
    some (false, y1)
   else
    bif (decide (at_ < 0)) then
     some (false, 1)
    else
     bif (decide (at_ ≥ (g_.length : Int))) then
      some (false, 1)
     else
      if 0 ≤ at_ ∧ at_ < (in_.length : Int) then
       bif (!(in_.getD ((at_).toNat) false)) then
        some (false, 0)
       else
        (without n at_ in_).bind fun y2 =>
         (parts n g_ y2).bind fun y3 =>
          (reach n g_ at_ in_).bind fun y4 =>
           (foldX (splits_b48 n some_ at_ y3) y4 (.s0 false 0)).bind fun y5 =>
            bif y5.2 == 0 then
             match y5.1 with
             | .s0 y5_0_0 y5_0_1 =>
              some (y5_0_0, 0)
            else
             bif y5.2 == 1 then
              match y5.1 with
              | .s0 y5_0_0 y5_0_1 =>
               some (y5_0_0, 0)
             else
              none
      else none
def splits (n : Nat) (g_ : List (List Int)) (in_ some_ : List Bool) (at_ : Int) : Option (Bool × Int) := splits_l0 n g_ in_ some_ at_
theorem splits_ok {n : Nat} {g_ : List (List Int)} {in_ some_ : List Bool} {at_ : Int} {r : Bool × Int} (h : splits n g_ in_ some_ at_ = some r) : ES Tryd.prog GG 68 [.sl 1 g_.length (rowE intsC g_), .bools in_, .bools some_, .i at_] [] (.tup 2 (L1 [.bool r.1, .i r.2])) [] true := by
  refine ot Tryd.func68 fun B N => ?_
  unfold splits at h
  unfold splits_l0 at h
  obtain ⟨y1, hy1, h⟩ := bindSome h
  have p := H0.a 18 4 1 (rows_build (c := boolsC) (L := ([in_, some_] : List (List Bool))) (vals := [.bools in_, .bools some_]) rfl ⟨⟨_, rfl, ⟨dle_refl, trivial⟩⟩, ⟨_, rfl, ⟨dle_refl, trivial⟩⟩, trivial⟩) |>.z 18 4 |>.g (Eq.refl 2) |>.c (fb (gvalid_ok hy1) (hp_splits_0 in_ some_ at_))
  rcases bifSome h with ⟨c0, h⟩ | ⟨c0, h⟩
  · cases h
    exact ee sch_splits [8, 9] [3] (p.b 21 c0 |>.t)
  · have p := p.b 21 c0
    rcases bifSome h with ⟨c1, h⟩ | ⟨c1, h⟩
    · cases h
      exact ee sch_splits [8, 9] [3] (p.b 24 c1 |>.t)
    · have p := p.b 24 c1
      rcases bifSome h with ⟨c2, h⟩ | ⟨c2, h⟩
      · cases h
        exact ee sch_splits [8, 9] [3] (p.b 29 c2 |>.t)
      · obtain ⟨g0, h⟩ := guardSome h
        have p := p.b 29 c2 |>.g g0
        rcases bifSome h with ⟨c3, h⟩ | ⟨c3, h⟩
        · cases h
          exact ee sch_splits [8, 9] [3] (p.b 35 c3 |>.t)
        · obtain ⟨y2, hy2, h⟩ := bindSome h
          obtain ⟨y3, hy3, h⟩ := bindSome h
          obtain ⟨y4, hy4, h⟩ := bindSome h
          obtain ⟨y5, hy5, h⟩ := bindSome h
          refine gs sch_splits [1, 2, 3, 6, 7, 8] (p.b 35 c3 |>.c (ES.snapNew (ds := [.i at_, .ref 0 0]) (without_ok hy2) (hp_splits_0 in_ some_ at_) ⟨Snap.plain (by kernel_rfl), (Snap.refL (l := [.bools in_]) (l0 := [.bools in_]) rfl ⟨Snap.plain (by kernel_rfl), trivial⟩), trivial⟩ rfl) |>.z 41 5 |>.g (Eq.refl y2.length) |>.c (fb (parts_ok hy3) (hp_splits_1 in_ some_ at_)) |>.t |>.t |>.c (reachM_iter hy4 (hp_splits_2 in_ some_ at_ y3))) (atT (bodyC Tryd.f68) 48 []) (frm 76 [(6, .ref 0 0), (7, .ref 1 0), (8, .ref 2 0), (11, .ref 3 0), (13, .ref 4 0), (48, .it 5)]) (hp_splits_3 some_ at_ y3 y4) ?_
          refine rx [.exit 0] 5 48 #[49] encI 6 hy5 (splits_b48_ok n some_ at_ y3) fun e he => ?_
          rcases bifSome h with ⟨y5q, h⟩ | ⟨y5q, h⟩
          · rw [eq_of_beq y5q] at he
            cases he
            revert h
            cases y5.1 with
            | s0 y5_0_0 y5_0_1 =>
              intro h
              dsimp only at h
              cases h
              exact ee sch_splits [8, 9] [2] (H0.t)
          · rcases bifSome h with ⟨y5q, h⟩ | ⟨y5q, h⟩
            · rw [eq_of_beq y5q] at he
              cases he
              refine TrE.exitTo (by kernel_rfl) ?_
              revert h
              cases y5.1 with
              | s0 y5_0_0 y5_0_1 =>
                intro h
                dsimp only at h
                cases h
                exact ee sch_splits [8, 9] [2] (H0.t)
            · cases h
end Go.Proofs.YtekkngkphejfcaaDoor
namespace Go.Proofs.YtekkngkphejfcaaDoor
open Go.RowKit
theorem PEv.bindU {R T : Type} {a : Nat → Option T} {b : Nat → T → Option R} {A : T → Prop} {Q : R → Prop} (ha : PEv a A) (hb : ∃ M, ∀ n, M ≤ n → ∀ x, A x → ∃ r, b n x = some r ∧ Q r) : PEv (fun n => (a n).bind (b n)) Q := by
  obtain ⟨N, ha⟩ := ha
  obtain ⟨M, hb⟩ := hb
  refine ⟨max N M, fun n hn => ?_⟩
  obtain ⟨x, h1, h2⟩ := ha n (by omega)
  obtain ⟨r, h3, h4⟩ := hb n (by omega) x h2
  exact ⟨r, by show (a n).bind (b n) = _; rw [h1, Option.bind_some]; exact h3, h4⟩
/-- A graph as the problems have it. -/
structure GrOk (g : List (List Int)) : Prop where
  ok : graphOk g = true
  row : ∀ r ∈ g, r.length ≤ LB
theorem GrOk.gr {g : List (List Int)} (h : GrOk g) : Gr g := Gr.of h.ok h.row
section
variable {g : List (List Int)} {inn some' : List Bool} {s : Int}
theorem gvalid_loop {sets : List (List Bool)} (hs : ∀ x ∈ sets, x.length = g.length) (hl : sets.length ≤ 256) : ∀ (k i n : Nat), i + k = sets.length → k + 1 ≤ n → gvalid_m g sets n (.l1 (i : Int)) = some 0
  | 0, i, n, e, hn => by
    obtain ⟨n, rfl⟩ : ∃ k, n = k + 1 := ⟨n - 1, by omega⟩
    show gvalid_l1 n (gvalid_m g sets n) g sets i = _
    unfold gvalid_l1
    rw [decide_eq_false (by omega), cond_false]
  | k + 1, i, n, e, hn => by
    obtain ⟨n, rfl⟩ : ∃ k, n = k + 1 := ⟨n - 1, by omega⟩
    have hi : i < sets.length := by omega
    have hm : sets.getD i [] ∈ sets := by rw [List.getD_eq_getElem?_getD, List.getElem?_eq_getElem hi]; exact List.getElem_mem hi
    have e2 : (((sets.getD i []).length : Int) != (g.length : Int)) = false := by rw [hs _ hm]; simp
    have := gvalid_loop hs hl k (i + 1) n (by omega) (by omega)
    show gvalid_l1 n (gvalid_m g sets n) g sets i = _
    unfold gvalid_l1
    rw [decide_eq_true (by omega), cond_true, if_pos ⟨by omega, by omega⟩, Int.toNat_natCast, e2, cond_false, if_pos (R64_iff.2 ⟨by omega, by omega⟩)]
    exact this
theorem gvalid_ev (G : GrOk g) {sets : List (List Bool)} (hs : ∀ x ∈ sets, x.length = g.length) (hl : sets.length ≤ 256) : Ev (fun n => gvalid n g sets) 0 := by
  refine ⟨2 * wid g + 1 + sets.length + 1, fun n hn => ?_⟩
  show gvalid n g sets = some 0
  unfold gvalid gvalid_l0
  rw [gcheck_eq G.row (by omega), G.ok]
  exact gvalid_loop hs hl sets.length 0 n (by omega) (by omega)
theorem app_fold {n : Nat} : ∀ (l x : List Int), (x ++ l).length ≤ LIM → foldO (appendSeq_b6 n) l (.s1 x.length x) = some (.s1 (x ++ l).length (x ++ l))
  | [], x, h => by rw [List.append_nil]; rfl
  | a :: l, x, h => by
    have e : x ++ a :: l = x ++ [a] ++ l := by simp
    rw [e] at h ⊢
    have h2 : x.length + 1 ≤ LIM := by simp only [List.length_append, List.length_singleton] at h; omega
    have e1 : appendSeq_b6 n a (.s1 x.length x) = some (.s1 (x ++ [a]).length (x ++ [a])) := by
      unfold appendSeq_b6 appendSeq_b6_l0 appendSeq_b6_e1
      dsimp only
      rw [if_pos ⟨⟨rfl, rfl⟩, ⟨rfl, rfl⟩, by simpa using h2⟩, List.length_append]
    show (appendSeq_b6 n a (.s1 x.length x)).bind (foldO (appendSeq_b6 n) l) = _
    rw [e1, Option.bind_some]
    exact app_fold l (x ++ [a]) h
theorem sorted_eq {n : Nat} {l : List Int} (h0 : l ≠ []) (hl : l.length ≤ 256) : sorted n l = some (sortI l) := by
  have L : (1000000000000 : Nat) = LIM := rfl
  cases l with
  | nil => exact absurd rfl h0
  | cons a l =>
    have e1 : appendSeq_b6 n a .s0 = some (.s1 [a].length [a]) := by
      unfold appendSeq_b6 appendSeq_b6_l0 appendSeq_b6_e0
      dsimp only
      rw [if_pos ⟨⟨rfl, rfl⟩, by simp, by rw [← L]; simp⟩]
    have e2 := app_fold (n := n) l [a] (by rw [← L]; simp only [List.singleton_append]; omega)
    have e3 : appendSeq n (a :: l) = some (a :: l) := by
      unfold appendSeq appendSeq_l0
      show ((appendSeq_b6 n a .s0).bind (foldO (appendSeq_b6 n) l)).bind _ = _
      rw [e1, Option.bind_some, e2, Option.bind_some]
      dsimp only
      rw [if_pos rfl]; rfl
    unfold sorted sorted_l0 collect collect_l0
    rw [e3, Option.bind_some, Option.bind_some, if_pos (by rw [← L]; omega), if_pos (sortI_length _).symm]
theorem reach_ne {l : List Int} (h : ∀ v, v ∈ l ↔ Rc g inn s v) : l ≠ [] := fun e => by
  have := (h s).2 .start
  rw [e] at this; cases this
theorem reach_len (G : Gr g) (h0 : 0 ≤ s) (h1 : s < (g.length : Int)) {l : List Int} (hn : l.Nodup) (h : ∀ v, v ∈ l ↔ Rc g inn s v) : l.length ≤ 256 :=
  Nat.le_trans (nodup_le g.length l hn fun x hx => ((h x).1 hx).rng G h0 h1) G.len
theorem component_ev (G : GrOk g) (hI : inn.length = g.length) (h0 : 0 ≤ s) (h1 : s < (g.length : Int)) (hs : inn.getD s.toNat false = true) :
    PEv (fun n => component n g inn s) (fun r => r.2 = 0 ∧ r.1.length ≤ 256 ∧ ∀ v, v ∈ r.1 ↔ Rc g inn s v) := by
  have e : ∀ n, component n g inn s = (gvalid n g [inn]).bind fun y1 => bif (y1 != 0) then some (([] : List Int), y1) else (reach n g s inn).bind fun y2 => (sorted n y2).bind fun y3 => some (y3, 0) := fun n => by
    unfold component component_l0
    congr 1
    funext y1
    rw [decide_eq_false (by omega), cond_false, decide_eq_false (by omega), cond_false, if_pos ⟨by omega, by omega⟩, hs, Bool.not_true, cond_false]
  refine PEv.eq ?_ e
  refine PEv.bind (gvalid_ev G (fun x hx => by rw [List.mem_singleton.1 hx]; exact hI) (by simp)) ?_
  show PEv (fun n => (reach n g s inn).bind fun y2 => (sorted n y2).bind fun y3 => some (y3, 0)) _
  refine PEv.bindU (reach_ev G.gr hI h0 h1) ⟨0, fun n _ l hl => ?_⟩
  have hlen := reach_len G.gr h0 h1 hl.1 hl.2
  rw [sorted_eq (reach_ne hl.2) hlen, Option.bind_some]
  exact ⟨_, rfl, rfl, by rw [sortI_length]; exact hlen, fun v => by rw [(sortI_perm l).mem_iff]; exact hl.2 v⟩
/-- The numbers of the parts, so far. -/
structure Pt (g : List (List Int)) (inn : List Bool) (i : Nat) (part : List Int) (many : Int) : Prop where
  len : part.length = g.length
  m0 : 0 ≤ many
  m1 : many ≤ (i : Int)
  lo : ∀ v, v < g.length → 0 ≤ part.getD v 0 ∧ part.getD v 0 ≤ many
  isIn : ∀ v, v < g.length → 0 < part.getD v 0 → inn.getD v false = true
  same : ∀ u v : Nat, u < g.length → v < g.length → 0 < part.getD u 0 → Rc g inn u v → part.getD v 0 = part.getD u 0
  con : ∀ u v : Nat, u < g.length → v < g.length → 0 < part.getD u 0 → part.getD v 0 = part.getD u 0 → Rc g inn u v
  all : ∀ v, v < i → v < g.length → inn.getD v false = true → 0 < part.getD v 0
theorem part_fold {n : Nat} {x13 m : Int} : ∀ (l : List Int) (part : List Int), part.length = g.length → (∀ v ∈ l, 0 ≤ v ∧ v < (g.length : Int)) →
    ∃ part', foldO (parts_b33 n g inn x13 m) l (.s0 part) = some (.s0 part') ∧ part'.length = g.length ∧ ∀ v : Nat, part'.getD v 0 = if (v : Int) ∈ l ∧ v < g.length then m + 1 else part.getD v 0
  | [], part, hp, _ => ⟨part, rfl, hp, fun v => by simp⟩
  | a :: l, part, hp, hl => by
    have ha := hl a List.mem_cons_self
    have e1 : parts_b33 n g inn x13 m a (.s0 part) = some (.s0 (part.set a.toNat (m + 1))) := by
      unfold parts_b33 parts_b33_l0 parts_b33_e0
      dsimp only
      rw [if_pos ⟨ha, by omega⟩, Nat.zero_add]
    obtain ⟨part', h1, h2, h3⟩ := part_fold (n := n) (x13 := x13) (m := m) l (part.set a.toNat (m + 1)) (by rw [List.length_set]; exact hp) fun v hv => hl v (List.mem_cons_of_mem _ hv)
    refine ⟨part', ?_, h2, fun v => ?_⟩
    · show (parts_b33 n g inn x13 m a (.s0 part)).bind (foldO (parts_b33 n g inn x13 m) l) = _
      rw [e1, Option.bind_some]; exact h1
    · rw [h3]
      by_cases hv : (v : Int) ∈ l ∧ v < g.length
      · rw [if_pos hv, if_pos ⟨List.mem_cons_of_mem _ hv.1, hv.2⟩]
      · rw [if_neg hv]
        by_cases e : (v : Int) = a
        · subst e
          rw [if_pos ⟨List.mem_cons_self, by omega⟩, Int.toNat_natCast, List.getD_eq_getElem?_getD, List.getElem?_set_self (by omega)]; rfl
        · rw [if_neg (fun h => by
            rcases List.mem_cons.1 h.1 with h4 | h4
            · exact e h4
            · exact hv ⟨h4, h.2⟩), List.getD_eq_getElem?_getD, List.getElem?_set_ne (by omega), ← List.getD_eq_getElem?_getD]
theorem Pt.go (G : Gr g) {i : Nat} {part part' : List Int} {many : Int} (h : Pt g inn i part many) (hi : i < g.length) (hin : inn.getD i false = true) (h0 : ¬ part.getD i 0 > 0) {l : List Int} (hl : ∀ v, v ∈ l ↔ Rc g inn i v) (hlen : part'.length = g.length)
    (hp : ∀ v : Nat, part'.getD v 0 = if (v : Int) ∈ l ∧ v < g.length then many + 1 else part.getD v 0) : Pt g inn (i + 1) part' (many + 1) := by
  have m0 := h.m0
  have m1 := h.m1
  have yes : ∀ v : Nat, v < g.length → Rc g inn i v → part'.getD v 0 = many + 1 := fun v hv hr => by rw [hp, if_pos ⟨(hl v).2 hr, hv⟩]
  have no : ∀ v : Nat, ¬ Rc g inn i v → part'.getD v 0 = part.getD v 0 := fun v hr => by rw [hp, if_neg (fun h => hr ((hl v).1 h.1))]
  have sym : ∀ u v : Nat, u < g.length → inn.getD u false = true → Rc g inn u v → Rc g inn v u := fun u v hu hui hr => hr.symm G (by omega) (by omega) (by rw [Int.toNat_natCast]; exact hui)
  refine ⟨hlen, by omega, by omega, fun v hv => ?_, fun v hv hpos => ?_, fun u v hu hv hpos hr => ?_, fun u v hu hv hpos he => ?_, fun v hv hvl hvi => ?_⟩
  · have := h.lo v hv
    by_cases hr : Rc g inn i v
    · rw [yes v hv hr]; omega
    · rw [no v hr]; omega
  · by_cases hr : Rc g inn i v
    · have := hr.isIn (by rw [Int.toNat_natCast]; exact hin)
      rwa [Int.toNat_natCast] at this
    · rw [no v hr] at hpos; exact h.isIn v hv hpos
  · by_cases h1 : Rc g inn i u
    · rw [yes u hu h1, yes v hv (h1.trans hr)]
    · rw [no u h1] at hpos ⊢
      have h2 : ¬ Rc g inn i v := fun h2 => h1 (h2.trans (sym u v hu (h.isIn u hu hpos) hr))
      rw [no v h2]
      exact h.same u v hu hv hpos hr
  · have hb := (h.lo v hv).2
    by_cases h1 : Rc g inn i u
    · rw [yes u hu h1] at he
      by_cases h2 : Rc g inn i v
      · exact (sym i u hi hin h1).trans h2
      · rw [no v h2] at he; omega
    · rw [no u h1] at hpos he
      have hb := (h.lo u hu).2
      by_cases h2 : Rc g inn i v
      · rw [yes v hv h2] at he; omega
      · rw [no v h2] at he
        exact h.con u v hu hv hpos he
  · rcases Nat.lt_succ_iff_lt_or_eq.1 hv with hv | rfl
    · have := h.all v hv hvl hvi
      by_cases hr : Rc g inn i v
      · rw [yes v hvl hr]; omega
      · rw [no v hr]; exact this
    · rw [yes v hvl .start]; omega
/-- What parts answers. -/
def PtP (g : List (List Int)) (inn : List Bool) (r : List Int × Int) : Prop := r.1.length = g.length ∧ (∀ v, v < g.length → inn.getD v false = true → 0 < r.1.getD v 0) ∧ ∀ u v : Nat, u < g.length → v < g.length → inn.getD u false = true → (r.1.getD v 0 = r.1.getD u 0 ↔ Rc g inn u v)
theorem parts_ev (G : Gr g) (hI : inn.length = g.length) : PEv (fun n => parts n g inn) (PtP g inn) := by
  have hG := G.len
  obtain ⟨N, hN⟩ := PEv.range (F := fun (i : Nat) n => reach n g i inn) (A := fun i l => l.Nodup ∧ ∀ v, v ∈ l ↔ Rc g inn i v) g.length fun i hi => reach_ev G hI (by omega) (by omega)
  have hN : ∀ n, N ≤ n → ∀ i : Nat, i < g.length → ∃ l, reach n g i inn = some l ∧ l.Nodup ∧ ∀ v, v ∈ l ↔ Rc g inn i v := hN
  refine ⟨N + g.length + 1, fun n hn => ?_⟩
  have S := loop0 (fun n (s : List Int × Int) i => parts_m g inn n (.l1 i s.1 s.2)) g.length (N + 1) (fun i s => Pt g inn i s.1 s.2) (fun n i s hn0 hi hP => ?_) (n := n) (s := (List.replicate g.length 0, 0)) (by omega) ?_
  · obtain ⟨n1, ⟨part, many⟩, hn1, _, e1, hP⟩ := S
    obtain ⟨n2, rfl⟩ : ∃ n2, n1 = n2 + 1 := ⟨n1 - 1, by omega⟩
    refine ⟨(part, many), ?_, hP.len, fun v hv hi => hP.all v hv hv hi, fun u v hu hv hi => ?_⟩
    · show parts n g inn = some (part, many)
      unfold parts parts_l0
      rw [if_pos ⟨rfl, by omega, by omega⟩]
      refine Eq.trans e1 ?_
      show parts_l1 n2 (parts_m g inn n2) g inn (g.length : Int) part many = _
      unfold parts_l1
      rw [decide_eq_false (by omega), cond_false, if_pos hP.len.symm]
    · have hu' := hP.all u hu hu hi
      exact ⟨hP.con u v hu hv hu', hP.same u v hu hv hu'⟩
  · obtain ⟨part, many⟩ := s
    have hP : Pt g inn i part many := hP
    have r1 : R64 ((i : Int) + 1) := R64_iff.2 ⟨by omega, by omega⟩
    show ∃ s', parts_l1 n (parts_m g inn n) g inn (i : Int) part many = _ ∧ _
    unfold parts_l1
    simp only [Int.toNat_natCast, Nat.zero_add]
    rw [decide_eq_true (by omega), cond_true, if_pos ⟨by omega, by omega⟩]
    cases hin : inn.getD i false
    · rw [Bool.not_false, cond_true, if_pos r1]
      have m1 := hP.m1
      refine ⟨(part, many), rfl, hP.len, hP.m0, by show many ≤ ((i + 1 : Nat) : Int); omega, hP.lo, hP.isIn, hP.same, hP.con, fun v hv hvl hvi => ?_⟩
      rcases Nat.lt_succ_iff_lt_or_eq.1 hv with hv | rfl
      · exact hP.all v hv hvl hvi
      · rw [hin] at hvi; cases hvi
    · have hlen := hP.len
      rw [Bool.not_true, cond_false, if_pos ⟨⟨by omega, by omega⟩, by omega⟩]
      by_cases h0 : part.getD i 0 > 0
      · rw [decide_eq_true h0, cond_true, if_pos r1]
        have m1 := hP.m1
        refine ⟨(part, many), rfl, hP.len, hP.m0, by show many ≤ ((i + 1 : Nat) : Int); omega, hP.lo, hP.isIn, hP.same, hP.con, fun v hv hvl hvi => ?_⟩
        rcases Nat.lt_succ_iff_lt_or_eq.1 hv with hv | rfl
        · exact hP.all v hv hvl hvi
        · exact h0
      · obtain ⟨l, e2, hnd, hl⟩ := hN n (by omega) i hi
        obtain ⟨part', e3, h3, h4⟩ := part_fold (n := n) (inn := inn) (x13 := (i : Int)) (m := many) l part hP.len fun v hv => ((hl v).1 hv).rng G (by omega) (by omega)
        have m0 := hP.m0
        have m1 := hP.m1
        rw [decide_eq_false h0, cond_false, if_pos (R64_iff.2 ⟨by omega, by omega⟩), e2, Option.bind_some, e3, Option.bind_some]
        dsimp only
        rw [if_pos r1]
        exact ⟨(part', many + 1), rfl, hP.go G hi hin h0 hl h3 h4⟩
  · have z : ∀ v : Nat, (List.replicate g.length (0 : Int)).getD v 0 = 0 := fun v => by
      rw [List.getD_eq_getElem?_getD, List.getElem?_replicate]; split <;> rfl
    exact ⟨by simp, Int.le_refl _, Int.le_refl _, fun v _ => by rw [z]; exact ⟨Int.le_refl _, Int.le_refl _⟩, fun v _ h => by rw [z] at h; omega, fun u v _ _ h => by rw [z] at h; omega, fun u v _ _ h => by rw [z] at h; omega, fun v hv => absurd hv (Nat.not_lt_zero v)⟩
/-- Without a node, two of some nodes are no longer connected. -/
def Sp (g : List (List Int)) (inn some' : List Bool) (a : Int) : Prop := ∃ u v : Int, u ≠ a ∧ v ≠ a ∧ some'.getD u.toNat false = true ∧ some'.getD v.toNat false = true ∧ Rc g inn a u ∧ Rc g inn a v ∧ ¬ Rc g (inn.set a.toNat false) u v
theorem sp_fold1 {n : Nat} {a f : Int} {y3 : List Int × Int} (hS : some'.length = g.length) (hy : y3.1.length = g.length) (hf : f ≠ 0) : ∀ (l : List Int), (∀ v ∈ l, 0 ≤ v ∧ v < (g.length : Int)) →
    ∃ b f' c, foldX (splits_b48 n some' a y3) l (.s0 false f) = some (.s0 b f', c) ∧ (c = 0 ∨ c = 1) ∧ (b = true ↔ ∃ v ∈ l, v ≠ a ∧ some'.getD v.toNat false = true ∧ y3.1.getD v.toNat 0 ≠ f)
  | [], _ => ⟨false, f, 0, rfl, .inl rfl, by simp⟩
  | x :: l, hl => by
    have hx := hl x List.mem_cons_self
    obtain ⟨b, f', c, h1, h2, h3⟩ := sp_fold1 (n := n) (a := a) hS hy hf l fun v hv => hl v (List.mem_cons_of_mem _ hv)
    have skip : splits_b48 n some' a y3 x (.s0 false f) = some (.s0 false f, 0) → ¬ (x ≠ a ∧ some'.getD x.toNat false = true ∧ y3.1.getD x.toNat 0 ≠ f) → ∃ b f' c, foldX (splits_b48 n some' a y3) (x :: l) (.s0 false f) = some (.s0 b f', c) ∧ (c = 0 ∨ c = 1) ∧ (b = true ↔ ∃ v ∈ x :: l, v ≠ a ∧ some'.getD v.toNat false = true ∧ y3.1.getD v.toNat 0 ≠ f) := by
      intro e hn
      refine ⟨b, f', c, ?_, h2, ?_⟩
      · unfold foldX
        rw [e, Option.bind_some]; exact h1
      · rw [h3]
        constructor
        · rintro ⟨v, hv, h⟩
          exact ⟨v, List.mem_cons_of_mem _ hv, h⟩
        · rintro ⟨v, hv, h⟩
          rcases List.mem_cons.1 hv with rfl | hv
          · exact absurd h hn
          · exact ⟨v, hv, h⟩
    have f0 : (f == 0) = false := beq_eq_false_iff_ne.2 hf
    have U : splits_b48 n some' a y3 x (.s0 false f) = splits_b48_e0 n some' a y3 x false f := rfl
    unfold splits_b48_e0 at U
    by_cases e1 : x = a
    · have : (x == a) = true := beq_iff_eq.2 e1
      rw [this, cond_true] at U
      exact skip U fun h => h.1 e1
    · have : (x == a) = false := beq_eq_false_iff_ne.2 e1
      rw [this, cond_false, if_pos ⟨by omega, by omega⟩] at U
      cases e2 : some'.getD x.toNat false
      · rw [e2, Bool.not_false, cond_true] at U
        exact skip U fun h => by rw [e2] at h; cases h.2.1
      · rw [e2, Bool.not_true, cond_false, f0, cond_false, if_pos ⟨by omega, by omega⟩] at U
        by_cases e3 : y3.1.getD x.toNat 0 = f
        · have e4 : (y3.1.getD x.toNat 0 != f) = false := by rw [e3]; simp
          rw [e4, cond_false] at U
          exact skip U fun h => h.2.2 e3
        · have e4 : (y3.1.getD x.toNat 0 != f) = true := by simpa using e3
          rw [e4, cond_true] at U
          refine ⟨true, f, 1, ?_, .inr rfl, ?_⟩
          · unfold foldX
            rw [U, Option.bind_some]; rfl
          · exact ⟨fun _ => ⟨x, List.mem_cons_self, e1, e2, e3⟩, fun _ => rfl⟩
theorem sp_fold0 {n : Nat} {a : Int} {y3 : List Int × Int} (hS : some'.length = g.length) (hy : y3.1.length = g.length) : ∀ (l : List Int), (∀ v ∈ l, 0 ≤ v ∧ v < (g.length : Int)) → (∀ v ∈ l, v ≠ a → y3.1.getD v.toNat 0 ≠ 0) →
    ∃ b f' c, foldX (splits_b48 n some' a y3) l (.s0 false 0) = some (.s0 b f', c) ∧ (c = 0 ∨ c = 1) ∧ (b = true ↔ ∃ u ∈ l, ∃ v ∈ l, u ≠ a ∧ v ≠ a ∧ some'.getD u.toNat false = true ∧ some'.getD v.toNat false = true ∧ y3.1.getD v.toNat 0 ≠ y3.1.getD u.toNat 0)
  | [], _, _ => ⟨false, 0, 0, rfl, .inl rfl, by simp⟩
  | x :: l, hl, hz => by
    have hx := hl x List.mem_cons_self
    have hl' : ∀ v ∈ l, 0 ≤ v ∧ v < (g.length : Int) := fun v hv => hl v (List.mem_cons_of_mem _ hv)
    have skip : splits_b48 n some' a y3 x (.s0 false 0) = some (.s0 false 0, 0) → ¬ (x ≠ a ∧ some'.getD x.toNat false = true) → ∃ b f' c, foldX (splits_b48 n some' a y3) (x :: l) (.s0 false 0) = some (.s0 b f', c) ∧ (c = 0 ∨ c = 1) ∧ (b = true ↔ ∃ u ∈ x :: l, ∃ v ∈ x :: l, u ≠ a ∧ v ≠ a ∧ some'.getD u.toNat false = true ∧ some'.getD v.toNat false = true ∧ y3.1.getD v.toNat 0 ≠ y3.1.getD u.toNat 0) := by
      intro e hn
      obtain ⟨b, f', c, h1, h2, h3⟩ := sp_fold0 (n := n) (a := a) hS hy l hl' fun v hv => hz v (List.mem_cons_of_mem _ hv)
      refine ⟨b, f', c, ?_, h2, ?_⟩
      · unfold foldX
        rw [e, Option.bind_some]; exact h1
      · rw [h3]
        constructor
        · rintro ⟨u, hu, v, hv, h⟩
          exact ⟨u, List.mem_cons_of_mem _ hu, v, List.mem_cons_of_mem _ hv, h⟩
        · rintro ⟨u, hu, v, hv, h4, h5, h6, h7, h8⟩
          rcases List.mem_cons.1 hu with rfl | hu
          · exact absurd ⟨h4, h6⟩ hn
          · rcases List.mem_cons.1 hv with rfl | hv
            · exact absurd ⟨h5, h7⟩ hn
            · exact ⟨u, hu, v, hv, h4, h5, h6, h7, h8⟩
    have U : splits_b48 n some' a y3 x (.s0 false 0) = splits_b48_e0 n some' a y3 x false 0 := rfl
    unfold splits_b48_e0 at U
    by_cases e1 : x = a
    · have : (x == a) = true := beq_iff_eq.2 e1
      rw [this, cond_true] at U
      exact skip U fun h => h.1 e1
    · have : (x == a) = false := beq_eq_false_iff_ne.2 e1
      rw [this, cond_false, if_pos ⟨by omega, by omega⟩] at U
      cases e2 : some'.getD x.toNat false
      · rw [e2, Bool.not_false, cond_true] at U
        exact skip U fun h => by rw [e2] at h; cases h.2
      · have z0 : ((0 : Int) == 0) = true := rfl
        rw [e2, Bool.not_true, cond_false, z0, cond_true, if_pos ⟨by omega, by omega⟩] at U
        obtain ⟨b, f', c, h1, h2, h3⟩ := sp_fold1 (n := n) (a := a) hS hy (hz x List.mem_cons_self e1) l hl'
        refine ⟨b, f', c, ?_, h2, ?_⟩
        · unfold foldX
          rw [U, Option.bind_some]; exact h1
        · rw [h3]
          constructor
          · rintro ⟨v, hv, h4, h5, h6⟩
            exact ⟨x, List.mem_cons_self, v, List.mem_cons_of_mem _ hv, e1, h4, e2, h5, h6⟩
          · rintro ⟨u, hu, v, hv, h4, h5, h6, h7, h8⟩
            by_cases e3 : y3.1.getD u.toNat 0 = y3.1.getD x.toNat 0
            · rcases List.mem_cons.1 hv with rfl | hv
              · exact absurd e3.symm h8
              · exact ⟨v, hv, h5, h7, fun e => h8 (e.trans e3.symm)⟩
            · rcases List.mem_cons.1 hu with rfl | hu
              · exact absurd rfl e3
              · exact ⟨u, hu, h4, h6, e3⟩
theorem splits_ev (G : GrOk g) (hI : inn.length = g.length) (hS : some'.length = g.length) {a : Nat} (ha : a < g.length) (hia : inn.getD a false = true) :
    PEv (fun n => splits n g inn some' (a : Int)) (fun r => r.2 = 0 ∧ (r.1 = true ↔ Sp g inn some' (a : Int))) := by
  have hG := G.gr.len
  have L : (1000000000000 : Nat) = LIM := rfl
  have hw : ∀ n, without n (a : Int) inn = some (inn.set a false) := fun n => by
    unfold without without_l0 cloneB cloneB_l0
    rw [if_pos ⟨by omega, trivial, ⟨rfl, rfl⟩, by rw [← L]; simp only [List.length_nil]; omega⟩, if_pos (by simp), Option.bind_some, List.nil_append, if_pos ⟨⟨by omega, by omega⟩, by omega⟩, if_pos (by simp), Nat.zero_add, Int.toNat_natCast]
  have hI' : (inn.set a false).length = g.length := by rw [List.length_set]; exact hI
  have e : ∀ n, splits n g inn some' (a : Int) = (gvalid n g [inn, some']).bind fun y1 => bif (y1 != 0) then some (false, y1) else (parts n g (inn.set a false)).bind fun y3 => (reach n g a inn).bind fun y4 => (foldX (splits_b48 n some' a y3) y4 (.s0 false 0)).bind fun y5 => bif y5.2 == 0 then (match y5.1 with | .s0 b _ => some (b, 0)) else bif y5.2 == 1 then (match y5.1 with | .s0 b _ => some (b, 0)) else none := fun n => by
    unfold splits splits_l0
    congr 1
    funext y1
    rw [decide_eq_false (by omega), cond_false, decide_eq_false (by omega), cond_false, if_pos ⟨by omega, by omega⟩, Int.toNat_natCast, hia, Bool.not_true, cond_false, hw, Option.bind_some]
  refine PEv.eq ?_ e
  refine PEv.bind (gvalid_ev G (fun x hx => by
    rcases List.mem_cons.1 hx with rfl | hx
    · exact hI
    · rw [List.mem_singleton.1 hx]; exact hS) (by simp)) ?_
  show PEv (R := Bool × Int) (fun n => (parts n g (inn.set a false)).bind fun y3 => (reach n g a inn).bind fun y4 => (foldX (splits_b48 n some' a y3) y4 (.s0 false 0)).bind fun y5 => bif y5.2 == 0 then (match y5.1 with | .s0 b _ => some (b, 0)) else bif y5.2 == 1 then (match y5.1 with | .s0 b _ => some (b, 0)) else none) _
  obtain ⟨N, hN⟩ := reach_ev G.gr hI (s := (a : Int)) (by omega) (by omega)
  refine PEv.bindU (parts_ev G.gr hI') ⟨N, fun n hn y3 hy => ?_⟩
  obtain ⟨l, hl, hnd, hlm⟩ := hN n hn
  have hl : reach n g (a : Int) inn = some l := hl
  have hr : ∀ v ∈ l, 0 ≤ v ∧ v < (g.length : Int) := fun v hv => ((hlm v).1 hv).rng G.gr (by omega) (by omega)
  have hin : ∀ v ∈ l, v ≠ (a : Int) → (inn.set a false).getD v.toNat false = true := fun v hv hne => by
    have h1 := hr v hv
    rw [List.getD_eq_getElem?_getD, List.getElem?_set_ne (by omega), ← List.getD_eq_getElem?_getD]
    exact ((hlm v).1 hv).isIn (by rw [Int.toNat_natCast]; exact hia)
  obtain ⟨b, f', c, h1, h2, h3⟩ := sp_fold0 (n := n) (some' := some') (a := (a : Int)) (y3 := y3) hS hy.1 l hr fun v hv hne => by
    have h1 := hr v hv
    have := hy.2.1 v.toNat (by omega) (hin v hv hne)
    omega
  rw [hl, Option.bind_some, h1, Option.bind_some]
  refine ⟨(b, 0), ?_, rfl, ?_⟩
  · rcases h2 with rfl | rfl <;> rfl
  · show b = true ↔ _
    rw [h3]
    have key : ∀ u v : Int, u ∈ l → v ∈ l → u ≠ a → (y3.1.getD v.toNat 0 = y3.1.getD u.toNat 0 ↔ Rc g (inn.set a false) u v) := fun u v hu hv hne => by
      have h1 := hr u hu
      have h2 := hr v hv
      have := hy.2.2 u.toNat v.toNat (by omega) (by omega) (hin u hu hne)
      rwa [Int.toNat_of_nonneg h1.1, Int.toNat_of_nonneg h2.1] at this
    constructor
    · rintro ⟨u, hu, v, hv, h4, h5, h6, h7, h8⟩
      exact ⟨u, v, h4, h5, h6, h7, (hlm u).1 hu, (hlm v).1 hv, fun h => h8 ((key u v hu hv h4).2 h)⟩
    · rintro ⟨u, v, h4, h5, h6, h7, h8, h9, h10⟩
      have hu := (hlm u).2 h8
      have hv := (hlm v).2 h9
      exact ⟨u, hu, v, hv, h4, h5, h6, h7, fun h => h10 ((key u v hu hv h4).1 h)⟩
end
end Go.Proofs.YtekkngkphejfcaaDoor
namespace Go.Proofs.YtekkngkphejfcaaDoor
open Go.RowKit
def must (c : ConsD) (pos : List Int) (a : Nat) : Bool := bits .andNot .i64 (setAt c pos a) c.set == 0
def may (c : ConsD) (pos : List Int) (a : Nat) : Bool := must c pos a || (bits .and .i64 (setAt c pos a) c.set != 0)
def cnt (p : Nat → Bool) (i : Nat) : Int := (((List.range i).countP p : Nat) : Int)
theorem cnt_succ {p : Nat → Bool} {i : Nat} : cnt p (i + 1) = cnt p i + (if p i then 1 else 0) := by
  unfold cnt
  rw [List.range_succ, List.countP_append, List.countP_singleton]
  split <;> simp
theorem cnt_le {p : Nat → Bool} {i : Nat} : 0 ≤ cnt p i ∧ cnt p i ≤ i := by
  unfold cnt
  have := List.countP_le_length (p := p) (l := List.range i)
  rw [List.length_range] at this
  omega
def countOk (c : ConsD) (pos : List Int) : Bool := !decide (cnt (must c pos) c.cells.length > c.hi) && !decide (cnt (may c pos) c.cells.length < c.lo)
/-- What a cell of the constraint loses, if the counts are not out of bounds. -/
def countX (c : ConsD) (pos : List Int) (a s : Nat) : Bool :=
  ((cnt (must c pos) c.cells.length == c.hi) && (bits .andNot .i64 (setAt c pos a) c.set != 0) && tb c.set s) || ((cnt (may c pos) c.cells.length == c.lo) && (bits .and .i64 (setAt c pos a) c.set != 0) && !tb c.set s)
section
variable {c : ConsD} {k : Nat} {pos lost : List Int} {q : ProbD}
theorem count_two {n : Nat} {x3 x4 : Int} (W : Work c k pos) (hl : lost.length = pos.length) (h3 : x3 = cnt (must c pos) c.cells.length) (h4 : x4 = cnt (may c pos) c.cells.length) (hn : c.cells.length + 1 ≤ n) :
    ∃ l, countW_m c q pos pos.length lost n (.l2 x3 x4 0 lost) = some (true, l) ∧ LostBy c pos lost c.cells.length (fun a s => countX c pos a s = true) l := by
  have lt : ∀ i, i < c.cells.length → ((i : Nat) : Int) < ((c.cells.length : Nat) : Int) := fun i hi => by omega
  have T := loop0 (fun n (s : List Int) i => countW_m c q pos pos.length lost n (.l2 x3 x4 i s)) c.cells.length 1
    (fun i s => LostBy c pos lost i (fun a s => countX c pos a s = true) s) (fun n i s hn0 hi hI => ?_) (n := n) (s := lost) (by omega) (LostBy.zero hl)
  · obtain ⟨n3, l, hn3, _, e2, hL⟩ := T
    obtain ⟨n4, rfl⟩ : ∃ n4, n3 = n4 + 1 := ⟨n3 - 1, by omega⟩
    refine ⟨l, e2.trans ?_, hL⟩
    show countW_l2 n4 (countW_m c q pos pos.length lost n4) c q pos pos.length lost x3 x4 (c.cells.length : Int) l = _
    unfold countW_l2
    rw [decide_eq_false (by omega), cond_false]
  · have hc := W.cells i hi
    have hr := W.r64 hi
    have key : ∀ l' : List Int, l'.length = pos.length → (∀ j x, tb (l'.getD j 0) x = (tb (s.getD j 0) x || (decide (j = (c.cells.getD i 0).toNat) && (tb (pos.getD j 0) x && countX c pos i x)))) → LostBy c pos lost (i + 1) (fun a s => countX c pos a s = true) l' := by
      intro l' h1 h2
      refine hI.step h1 fun j x => ?_
      rw [h2, Bool.or_eq_true, Bool.and_eq_true, Bool.and_eq_true, decide_eq_true_iff]
      constructor
      · rintro (h | ⟨rfl, h⟩)
        · exact .inl h
        · exact .inr ⟨rfl, h⟩
      · rintro (h | ⟨rfl, h⟩)
        · exact .inl h
        · exact .inr ⟨rfl, h⟩
    obtain ⟨l1, e1, n1, f1⟩ := lose_some (lost := s) (n := n) (ss := c.set) (c := c) (q := q) hc.1 hc.2 hI.1
    obtain ⟨l2, e2, n2, f2⟩ := only_some (lost := l1) (n := n) (c := c) (q := q) hc.1 hc.2 n1
    obtain ⟨l3, e3, n3, f3⟩ := only_some (lost := s) (n := n) (c := c) (q := q) hc.1 hc.2 hI.1
    have d0 : decide ((i : Int) < ((c.cells.length : Nat) : Int)) = true := decide_eq_true (lt i hi)
    have g0 : (0 : Int) ≤ (i : Int) ∧ (i : Int) < ((c.cells.length : Nat) : Int) := ⟨by omega, lt i hi⟩
    show ∃ s', countW_l2 n (countW_m c q pos pos.length lost n) c q pos pos.length lost x3 x4 (i : Int) s = _ ∧ _
    unfold countW_l2
    rw [d0, cond_true, if_pos g0]
    simp only [Int.toNat_natCast]
    have X : ∀ x, countX c pos i x = (((x3 == c.hi) && (bits .andNot .i64 (pos.getD (c.cells.getD i 0).toNat 0) c.set != 0) && tb c.set x) || ((x4 == c.lo) && (bits .and .i64 (pos.getD (c.cells.getD i 0).toNat 0) c.set != 0) && !tb c.set x)) := fun x => by rw [h3, h4]; rfl
    cases hA : (x3 == c.hi) <;> cases hC : (x4 == c.lo) <;> cases hB : (bits .andNot .i64 (pos.getD (c.cells.getD i 0).toNat 0) c.set != 0) <;> cases hE : (bits .and .i64 (pos.getD (c.cells.getD i 0).toNat 0) c.set != 0) <;>
      simp only [hA, hB, hC, hE, Bool.true_and, Bool.false_and, Bool.and_false, Bool.and_true, Bool.or_false, Bool.false_or] at X <;>
      simp only [cond_true, cond_false, if_pos hc, e1, e2, e3, Option.bind_some, if_pos hr.2]
    all_goals first
      | exact ⟨s, rfl, key s hI.1 fun j x => by rw [X, Bool.and_false, Bool.and_false, Bool.or_false]⟩
      | exact ⟨l1, rfl, key l1 n1 fun j x => by rw [f1, X]⟩
      | exact ⟨l3, rfl, key l3 n3 fun j x => by rw [f3, X]⟩
      | exact ⟨l2, rfl, key l2 n2 fun j x => by
          rw [f2, f1, X]
          cases tb (s.getD j 0) x <;> cases decide (j = (c.cells.getD i 0).toNat) <;> cases tb (pos.getD j 0) x <;> cases tb c.set x <;> rfl⟩
theorem count_some {n : Nat} (W : Work c k pos) (hl : lost.length = pos.length) (hn : 2 * c.cells.length + 3 ≤ n) :
    ∃ l, countW n c q pos pos.length lost = some (countOk c pos, l) ∧ (countOk c pos = true → LostBy c pos lost c.cells.length (fun a s => countX c pos a s = true) l) := by
  have lt : ∀ i, i < c.cells.length → ((i : Nat) : Int) < ((c.cells.length : Nat) : Int) := fun i hi => by omega
  have S := loop0 (fun n (s : Int × Int) i => countW_m c q pos pos.length lost n (.l1 s.1 s.2 i)) c.cells.length (c.cells.length + 3)
    (fun i s => s.1 = cnt (must c pos) i ∧ s.2 = cnt (may c pos) i) (fun n i s _ hi hI => ?_) (n := n) (s := (0, 0)) (by omega) ⟨rfl, rfl⟩
  · obtain ⟨n1, ⟨x3, x4⟩, hn1, _, e1, h3, h4⟩ := S
    obtain ⟨n2, rfl⟩ : ∃ n2, n1 = n2 + 1 := ⟨n1 - 1, by omega⟩
    have e2 : countW n c q pos pos.length lost = countW_l1 n2 (countW_m c q pos pos.length lost n2) c q pos pos.length lost x3 x4 (c.cells.length : Int) := e1
    have h3 : x3 = cnt (must c pos) c.cells.length := h3
    have h4 : x4 = cnt (may c pos) c.cells.length := h4
    unfold countW_l1 at e2
    rw [decide_eq_false (by omega), cond_false] at e2
    unfold countOk
    rw [← h3, ← h4]
    cases h5 : decide (x3 > c.hi)
    · cases h6 : decide (x4 < c.lo)
      · obtain ⟨l, e3, hL⟩ := count_two (q := q) (n := n2) W hl h3 h4 (by omega)
        rw [h5, h6, cond_false, cond_false, e3] at e2
        exact ⟨l, e2, fun _ => hL⟩
      · rw [h5, h6, cond_false, cond_true] at e2
        exact ⟨lost, e2, fun h => by cases h⟩
    · rw [h5, cond_true] at e2
      exact ⟨lost, e2, fun h => by cases h⟩
  · obtain ⟨x3, x4⟩ := s
    obtain ⟨h3, h4⟩ := hI
    simp only at h3 h4
    have hc := W.cells i hi
    have hr := W.r64 hi
    have b3 := cnt_le (p := must c pos) (i := i)
    have b4 := cnt_le (p := may c pos) (i := i)
    have hlen := W.len
    have r3 : R64 (x3 + 1) := R64_iff.2 ⟨by omega, by omega⟩
    have r4 : R64 (x4 + 1) := R64_iff.2 ⟨by omega, by omega⟩
    show ∃ s', countW_l1 n (countW_m c q pos pos.length lost n) c q pos pos.length lost x3 x4 (i : Int) = _ ∧ _
    unfold countW_l1
    rw [decide_eq_true (lt i hi), cond_true]
    simp only [Int.toNat_natCast]
    rw [if_pos ⟨⟨by omega, lt i hi⟩, hc⟩]
    have m1 : (bits .andNot .i64 (pos.getD (c.cells.getD i 0).toNat 0) c.set == 0) = must c pos i := rfl
    have m2 : (must c pos i || (bits .and .i64 (pos.getD (c.cells.getD i 0).toNat 0) c.set != 0)) = may c pos i := rfl
    rw [m1]
    cases hm : must c pos i
    · rw [hm, Bool.false_or] at m2
      rw [cond_false, m2]
      cases hy : may c pos i
      · rw [cond_false, if_pos hr.2]
        exact ⟨(x3, x4), rfl, by rw [cnt_succ, hm]; simpa using h3, by rw [cnt_succ, hy]; simpa using h4⟩
      · rw [cond_true, if_pos ⟨r4, hr.2⟩]
        exact ⟨(x3, x4 + 1), rfl, by rw [cnt_succ, hm]; simpa using h3, by rw [cnt_succ, hy]; simpa using h4⟩
    · have hy : may c pos i = true := by rw [← m2, hm]; rfl
      rw [cond_true, if_pos ⟨r3, r4, hr.2⟩]
      exact ⟨(x3 + 1, x4 + 1), rfl, by rw [cnt_succ, hm]; simpa using h3, by rw [cnt_succ, hy]; simpa using h4⟩
end
end Go.Proofs.YtekkngkphejfcaaDoor
namespace Go.Proofs.YtekkngkphejfcaaDoor
open Go.RowKit
theorem tb_wrap (x : Int) (i : Nat) : tb (IntKind.i64.wrap x) i = tb x i := by unfold tb; rw [ofInt_wrap]
theorem tb_shl {s : Nat} (hs : s < 64) (i : Nat) : tb (IntKind.i64.wrap (1 * 2 ^ s)) i = decide (s = i) := by
  rw [tb_wrap, Int.one_mul]
  rcases Nat.lt_or_ge i 64 with h | h
  · have e : ((2 ^ s : Nat) : Int) = (2 : Int) ^ s := by simp
    rw [← e]; exact tb_pow h
  · rw [tb_ge h, decide_eq_false (by omega)]
theorem mem_symsI {k : Nat} {x : Int} (h : Sm k x) (hk : k ≤ 62) {e : Int} : e ∈ symsI x ↔ ∃ s : Nat, e = (s : Int) ∧ s < k ∧ tb x s = true := by
  obtain ⟨m, rfl⟩ := Int.eq_ofNat_of_zero_le h.1
  unfold symsI symsOf
  simp only [List.mem_map, List.mem_filter, List.mem_range, Int.toNat_natCast]
  constructor
  · rintro ⟨s, ⟨h1, h2⟩, rfl⟩
    have h3 : tb (m : Int) s = true := by rw [tb_nat m s h1]; exact h2
    refine ⟨s, rfl, ?_, h3⟩
    refine Nat.lt_of_not_le fun hle => ?_
    rw [h.hi hle] at h3; cases h3
  · rintro ⟨s, rfl, h1, h2⟩
    exact ⟨s, ⟨by omega, by rw [tb_nat m s (by omega)] at h2; exact h2⟩, rfl⟩
theorem foldO_inv {α σ : Type} {f : α → σ → Option σ} (Inv : List α → σ → Prop) : ∀ (l pre : List α) (s : σ), Inv pre s → (∀ pre x s, x ∈ l → Inv pre s → ∃ s', f x s = some s' ∧ Inv (pre ++ [x]) s') → ∃ s', foldO f l s = some s' ∧ Inv (pre ++ l) s'
  | [], pre, s, h, _ => ⟨s, rfl, by rw [List.append_nil]; exact h⟩
  | x :: l, pre, s, h, hs => by
    obtain ⟨s', h1, h2⟩ := hs pre x s (.head _) h
    obtain ⟨s2, h3, h4⟩ := foldO_inv Inv l (pre ++ [x]) s' h2 fun pre y s hy => hs pre y s (.tail _ hy)
    refine ⟨s2, ?_, by rw [List.append_assoc] at h4; exact h4⟩
    simp only [foldO]
    rw [h1, Option.bind_some, h3]
/-- The symbols have values. -/
structure Vals (q : ProbD) (k : Nat) : Prop where
  len : k ≤ q.values.length
  val : ∀ s, s < k → 0 ≤ q.values.getD s 0 ∧ q.values.getD s 0 ≤ 99
def loF (q : ProbD) (a e : Int) : Int := if q.values.getD e.toNat 0 < a then q.values.getD e.toNat 0 else a
def hiF (q : ProbD) (a e : Int) : Int := if q.values.getD e.toNat 0 > a then q.values.getD e.toNat 0 else a
def loV (q : ProbD) (x : Int) : Int := (symsI x).foldl (loF q) 100
def hiV (q : ProbD) (x : Int) : Int := (symsI x).foldl (hiF q) (-1)
section
variable {c : ConsD} {k : Nat} {pos lost : List Int} {q : ProbD}
theorem lo_bounds : ∀ (l : List Int) (a : Int), (∀ e ∈ l, 0 ≤ q.values.getD e.toNat 0 ∧ q.values.getD e.toNat 0 ≤ 99) → 0 ≤ a ∧ a ≤ 100 → 0 ≤ l.foldl (loF q) a ∧ l.foldl (loF q) a ≤ 100
  | [], _, _, h => h
  | e :: l, a, hv, h => by
    have := hv e (.head _)
    refine lo_bounds l (loF q a e) (fun e he => hv e (.tail _ he)) ?_
    unfold loF; split <;> omega
theorem hi_bounds : ∀ (l : List Int) (a : Int), (∀ e ∈ l, 0 ≤ q.values.getD e.toNat 0 ∧ q.values.getD e.toNat 0 ≤ 99) → -1 ≤ a ∧ a ≤ 99 → -1 ≤ l.foldl (hiF q) a ∧ l.foldl (hiF q) a ≤ 99
  | [], _, _, h => h
  | e :: l, a, hv, h => by
    have := hv e (.head _)
    refine hi_bounds l (hiF q a e) (fun e he => hv e (.tail _ he)) ?_
    unfold hiF; split <;> omega
theorem Vals.sym (V : Vals q k) (hk : k ≤ 16) {x : Int} (h : Sm k x) : ∀ e ∈ symsI x, (0 ≤ e ∧ e < ((q.values.length : Nat) : Int)) ∧ 0 ≤ q.values.getD e.toNat 0 ∧ q.values.getD e.toNat 0 ≤ 99 := by
  intro e he
  obtain ⟨s, rfl, h1, _⟩ := (mem_symsI h (Nat.le_trans hk (by decide))).1 he
  have := V.len
  rw [Int.toNat_natCast]
  exact ⟨by omega, V.val s h1⟩
theorem Vals.lo (V : Vals q k) (hk : k ≤ 16) {x : Int} (h : Sm k x) : 0 ≤ loV q x ∧ loV q x ≤ 100 := lo_bounds _ _ (fun e he => (V.sym hk h e he).2) (by decide)
theorem Vals.hi (V : Vals q k) (hk : k ≤ 16) {x : Int} (h : Sm k x) : -1 ≤ hiV q x ∧ hiV q x ≤ 99 := hi_bounds _ _ (fun e he => (V.sym hk h e he).2) (by decide)
theorem ends_fold {n ln : Nat} : ∀ (l : List Int) (a b : Int), (∀ e ∈ l, 0 ≤ e ∧ e < ((q.values.length : Nat) : Int)) → foldO (endsW_b8 n c q pos ln lost) l (.s0 a b) = some (.s0 (l.foldl (loF q) a) (l.foldl (hiF q) b))
  | [], _, _, _ => rfl
  | e :: l, a, b, h => by
    have e1 : endsW_b8 n c q pos ln lost e (.s0 a b) = some (.s0 (loF q a e) (hiF q b e)) := by
      unfold endsW_b8 endsW_b8_l0 endsW_b8_e0
      dsimp only
      rw [if_pos (h e (.head _))]; rfl
    simp only [foldO]
    rw [e1, Option.bind_some, ends_fold l _ _ fun e he => h e (.tail _ he)]
    rfl
theorem ends_some {n ln : Nat} (V : Vals q k) (hk : k ≤ 16) {x : Int} (h : Sm k x) : endsW n x c q pos ln lost = some (loV q x, hiV q x, lost) := by
  have h62 := pow_le62 (k := k) (Nat.le_trans hk (by decide))
  have h2 := h.2
  unfold endsW endsW_l0
  rw [if_pos ⟨h.1, by omega⟩, ends_fold (symsI x) 100 (-1) fun e he => (V.sym hk h e he).1]
  rfl
def tot (f : Nat → Int) : Nat → Int
  | 0 => 0
  | i + 1 => tot f i + f i
theorem tot_le {f : Nat → Int} : ∀ (i : Nat), (∀ a, a < i → -1 ≤ f a ∧ f a ≤ 100) → -(i : Int) ≤ tot f i ∧ tot f i ≤ 100 * (i : Int)
  | 0, _ => by simp [tot]
  | i + 1, h => by
    have h1 := tot_le i fun a ha => h a (by omega)
    have h2 := h i (by omega)
    simp only [tot]
    omega
def lowOf (q : ProbD) (c : ConsD) (pos : List Int) : Int := tot (fun a => loV q (setAt c pos a)) c.cells.length
def highOf (q : ProbD) (c : ConsD) (pos : List Int) : Int := tot (fun a => hiV q (setAt c pos a)) c.cells.length
def sumOk (q : ProbD) (c : ConsD) (pos : List Int) : Bool := !decide (lowOf q c pos > c.hi) && !decide (highOf q c pos < c.lo)
/-- A symbol's value is too great for the least sum of the others, or too small for the greatest. -/
def sumX (q : ProbD) (c : ConsD) (pos : List Int) (a s : Nat) : Bool :=
  decide (lowOf q c pos - loV q (setAt c pos a) + q.values.getD s 0 > c.hi) || decide (highOf q c pos - hiV q (setAt c pos a) + q.values.getD s 0 < c.lo)
/-- A loop over a cell's symbols that takes some of them from the cell. -/
theorem lose_fold {T : Type} {n : Nat} (W : Work c k pos) {i : Nat} (hi : i < c.cells.length) (hl : lost.length = pos.length) (mk : List Int → T) (f : Int → T → Option T) (X : Nat → Bool)
    (hf : ∀ (s : Nat) (l : List Int), s < k → l.length = pos.length → f (s : Int) (mk l) = bif X s then (loseW n (c.cells.getD i 0) (IntKind.i64.wrap (1 * 2 ^ s)) c q pos pos.length l).map mk else some (mk l)) :
    ∃ l', foldO f (symsI (setAt c pos i)) (mk lost) = some (mk l') ∧ l'.length = pos.length ∧
      ∀ j s, tb (l'.getD j 0) s = true ↔ tb (lost.getD j 0) s = true ∨ ((c.cells.getD i 0).toNat = j ∧ tb (setAt c pos i) s = true ∧ X s = true) := by
  have hc := W.cells i hi
  have hsm := W.at hi
  have hk := W.k
  have key := foldO_inv (f := f)
    (fun pre s => ∃ l', s = mk l' ∧ l'.length = pos.length ∧ ∀ j s, tb (l'.getD j 0) s = true ↔ tb (lost.getD j 0) s = true ∨ ((c.cells.getD i 0).toNat = j ∧ tb (setAt c pos i) s = true ∧ (s : Int) ∈ pre ∧ X s = true))
    (symsI (setAt c pos i)) [] (mk lost) ⟨lost, rfl, hl, fun j s => ⟨.inl, fun h => h.elim id fun h => (by cases h.2.2.1)⟩⟩ ?_
  · obtain ⟨_, h1, l', rfl, h2, h3⟩ := key
    refine ⟨l', h1, h2, fun j s => ?_⟩
    rw [h3, List.nil_append]
    constructor
    · rintro (h | ⟨a1, a2, _, a3⟩)
      · exact .inl h
      · exact .inr ⟨a1, a2, a3⟩
    · rintro (h | ⟨a1, a2, a3⟩)
      · exact .inl h
      · refine .inr ⟨a1, a2, (mem_symsI hsm (Nat.le_trans hk (by decide))).2 ⟨s, rfl, Nat.lt_of_not_le fun hle => ?_, a2⟩, a3⟩
        rw [hsm.hi hle] at a2; cases a2
  · rintro pre e _ he ⟨l', rfl, h2, h3⟩
    obtain ⟨s, rfl, hs, hbit⟩ := (mem_symsI hsm (Nat.le_trans hk (by decide))).1 he
    rw [hf s l' hs h2]
    cases hx : X s
    · rw [cond_false]
      refine ⟨_, rfl, l', rfl, h2, fun j x => ?_⟩
      rw [h3]
      constructor
      · rintro (h | ⟨a1, a2, a3, a4⟩)
        · exact .inl h
        · exact .inr ⟨a1, a2, List.mem_append_left _ a3, a4⟩
      · rintro (h | ⟨a1, a2, a3, a4⟩)
        · exact .inl h
        · rcases List.mem_append.1 a3 with a3 | a3
          · exact .inr ⟨a1, a2, a3, a4⟩
          · have : x = s := by have := List.mem_singleton.1 a3; omega
            subst this
            rw [hx] at a4; cases a4
    · obtain ⟨l2, e2, n2, f2⟩ := lose_some (lost := l') (n := n) (ss := IntKind.i64.wrap (1 * 2 ^ s)) (c := c) (q := q) hc.1 hc.2 h2
      rw [cond_true, e2, Option.map_some]
      refine ⟨_, rfl, l2, rfl, n2, fun j x => ?_⟩
      rw [f2, Bool.or_eq_true, Bool.and_eq_true, Bool.and_eq_true, decide_eq_true_iff, h3, tb_shl (by omega), decide_eq_true_iff]
      constructor
      · rintro ((h | ⟨a1, a2, a3, a4⟩) | ⟨rfl, a2, rfl⟩)
        · exact .inl h
        · exact .inr ⟨a1, a2, List.mem_append_left _ a3, a4⟩
        · exact .inr ⟨rfl, a2, List.mem_append_right _ (.head _), hx⟩
      · rintro (h | ⟨a1, a2, a3, a4⟩)
        · exact .inl (.inl h)
        · rcases List.mem_append.1 a3 with a3 | a3
          · exact .inl (.inr ⟨a1, a2, a3, a4⟩)
          · have : x = s := by have := List.mem_singleton.1 a3; omega
            subst this
            subst a1
            exact .inr ⟨rfl, a2, rfl⟩
theorem sum_body {n : Nat} (W : Work c k pos) (V : Vals q k) {i : Nat} (hi : i < c.cells.length) {low high : Int} (hlow : low = lowOf q c pos) (hhigh : high = highOf q c pos) (hl : lost.length = pos.length) :
    ∃ l', foldO (sumW_b89 n c (i : Int) q pos pos.length low high (loV q (setAt c pos i), hiV q (setAt c pos i), lost)) (symsI (setAt c pos i)) (.s0 lost) = some (.s0 l') ∧ l'.length = pos.length ∧
      ∀ j s, tb (l'.getD j 0) s = true ↔ tb (lost.getD j 0) s = true ∨ ((c.cells.getD i 0).toNat = j ∧ tb (setAt c pos i) s = true ∧ sumX q c pos i s = true) := by
  have hc := W.cells i hi
  have hsm := W.at hi
  have hk := W.k
  have hlen := W.len
  have bl := V.lo hk hsm
  have bh := V.hi hk hsm
  have tl := tot_le (f := fun a => loV q (setAt c pos a)) c.cells.length fun a ha => by have := V.lo hk (W.at ha); omega
  have th := tot_le (f := fun a => hiV q (setAt c pos a)) c.cells.length fun a ha => by have := V.hi hk (W.at ha); omega
  have tl : -(c.cells.length : Int) ≤ low ∧ low ≤ 100 * (c.cells.length : Int) := by rw [hlow]; exact tl
  have th : -(c.cells.length : Int) ≤ high ∧ high ≤ 100 * (c.cells.length : Int) := by rw [hhigh]; exact th
  refine lose_fold (n := n) (q := q) W hi hl sumW_b89T.s0 _ (sumX q c pos i) fun s l hs hl => ?_
  have hv := V.val s hs
  have hvl := V.len
  have r1 : R64 (low - loV q (setAt c pos i)) := R64_iff.2 ⟨by omega, by omega⟩
  have r2 : R64 (low - loV q (setAt c pos i) + q.values.getD s 0) := R64_iff.2 ⟨by omega, by omega⟩
  have r3 : R64 (high - hiV q (setAt c pos i)) := R64_iff.2 ⟨by omega, by omega⟩
  have r4 : R64 (high - hiV q (setAt c pos i) + q.values.getD s 0) := R64_iff.2 ⟨by omega, by omega⟩
  have g1 : (0 : Int) ≤ (s : Int) ∧ (s : Int) < ((q.values.length : Nat) : Int) := by omega
  have g2 : (0 : Int) ≤ (s : Int) ∧ (s : Int) ≤ ((IntKind.i64.bits : Nat) : Int) := ⟨by omega, by show (s : Int) ≤ 64; omega⟩
  obtain ⟨l2, e2, _, _⟩ := lose_some (lost := l) (n := n) (ss := IntKind.i64.wrap (1 * 2 ^ s)) (c := c) (q := q) hc.1 hc.2 hl
  have X : sumX q c pos i s = (decide (low - loV q (setAt c pos i) + q.values.getD s 0 > c.hi) || decide (high - hiV q (setAt c pos i) + q.values.getD s 0 < c.lo)) := by rw [hlow, hhigh]; rfl
  rw [X]
  unfold sumW_b89 sumW_b89_l0 sumW_b89_e0
  dsimp only
  simp only [Int.toNat_natCast]
  rw [if_pos ⟨g1, r1, r2⟩]
  cases hA : decide (low - loV q (setAt c pos i) + q.values.getD s 0 > c.hi)
  · rw [cond_false, if_pos ⟨r3, r4⟩, Bool.false_or]
    cases hB : decide (high - hiV q (setAt c pos i) + q.values.getD s 0 < c.lo)
    · rfl
    · rw [cond_true, cond_true, if_pos g2, e2]; rfl
  · rw [cond_true, Bool.true_or, cond_true, if_pos g2, e2]; rfl
theorem sum_two {n : Nat} (W : Work c k pos) (V : Vals q k) (hl : lost.length = pos.length) (hn : c.cells.length + 1 ≤ n) :
    ∃ l, sumW_m c q pos pos.length lost n (.l2 0 lost (lowOf q c pos) (highOf q c pos)) = some (true, l) ∧ LostBy c pos lost c.cells.length (fun a s => sumX q c pos a s = true) l := by
  have lt : ∀ i, i < c.cells.length → ((i : Nat) : Int) < ((c.cells.length : Nat) : Int) := fun i hi => by omega
  have T := loop0 (fun n (s : List Int) i => sumW_m c q pos pos.length lost n (.l2 i s (lowOf q c pos) (highOf q c pos))) c.cells.length 1
    (fun i s => LostBy c pos lost i (fun a s => sumX q c pos a s = true) s) (fun n i s hn0 hi hI => ?_) (n := n) (s := lost) (by omega) (LostBy.zero hl)
  · obtain ⟨n3, l, hn3, _, e2, hL⟩ := T
    obtain ⟨n4, rfl⟩ : ∃ n4, n3 = n4 + 1 := ⟨n3 - 1, by omega⟩
    refine ⟨l, e2.trans ?_, hL⟩
    show sumW_l2 n4 (sumW_m c q pos pos.length lost n4) c q pos pos.length lost (c.cells.length : Int) l _ _ = _
    unfold sumW_l2
    rw [decide_eq_false (by omega), cond_false]
  · have hc := W.cells i hi
    have hr := W.r64 hi
    have hsm := W.at hi
    have h62 := pow_le62 (k := k) (Nat.le_trans W.k (by decide))
    have hs2 := hsm.2
    obtain ⟨l', e1, n1, f1⟩ := sum_body (n := n) W V hi rfl rfl hI.1
    show ∃ s', sumW_l2 n (sumW_m c q pos pos.length lost n) c q pos pos.length lost (i : Int) s _ _ = _ ∧ _
    unfold sumW_l2
    rw [decide_eq_true (lt i hi), cond_true]
    simp only [Int.toNat_natCast]
    have sa : pos.getD (c.cells.getD i 0).toNat 0 = setAt c pos i := rfl
    rw [if_pos ⟨⟨by omega, lt i hi⟩, hc⟩, sa, ends_some V W.k hsm, Option.bind_some, if_pos ⟨hsm.1, by show setAt c pos i < _; omega⟩]
    refine ⟨l', ?_, hI.step n1 f1⟩
    refine (congrArg (fun z => Option.bind z _) e1).trans ?_
    rw [Option.bind_some]
    simp only
    rw [if_pos hr.2]
theorem sum_some {n : Nat} (W : Work c k pos) (V : Vals q k) (hl : lost.length = pos.length) (hn : 2 * c.cells.length + 3 ≤ n) :
    ∃ l, sumW n c q pos pos.length lost = some (sumOk q c pos, l) ∧ (sumOk q c pos = true → LostBy c pos lost c.cells.length (fun a s => sumX q c pos a s = true) l) := by
  have lt : ∀ i, i < c.cells.length → ((i : Nat) : Int) < ((c.cells.length : Nat) : Int) := fun i hi => by omega
  have S := loop0 (fun n (s : List Int × Int × Int) i => sumW_m c q pos pos.length lost n (.l1 i s.1 s.2.1 s.2.2)) c.cells.length (c.cells.length + 3)
    (fun i s => s.1 = lost ∧ s.2.1 = tot (fun a => loV q (setAt c pos a)) i ∧ s.2.2 = tot (fun a => hiV q (setAt c pos a)) i) (fun n i s _ hi hI => ?_) (n := n) (s := (lost, 0, 0)) (by omega) ⟨rfl, rfl, rfl⟩
  · obtain ⟨n1, ⟨l0, x3, x4⟩, hn1, _, e1, h0, h3, h4⟩ := S
    obtain ⟨n2, rfl⟩ : ∃ n2, n1 = n2 + 1 := ⟨n1 - 1, by omega⟩
    obtain rfl : l0 = lost := h0
    obtain rfl : x3 = lowOf q c pos := h3
    obtain rfl : x4 = highOf q c pos := h4
    have e2 : sumW n c q pos pos.length l0 = sumW_l1 n2 (sumW_m c q pos pos.length l0 n2) c q pos pos.length l0 (c.cells.length : Int) l0 (lowOf q c pos) (highOf q c pos) := e1
    unfold sumW_l1 at e2
    rw [decide_eq_false (by omega), cond_false] at e2
    unfold sumOk
    cases h5 : decide (lowOf q c pos > c.hi)
    · cases h6 : decide (highOf q c pos < c.lo)
      · obtain ⟨l, e3, hL⟩ := sum_two (n := n2) W V hl (by omega)
        rw [h5, h6, cond_false, cond_false, e3] at e2
        exact ⟨l, e2, fun _ => hL⟩
      · rw [h5, h6, cond_false, cond_true] at e2
        exact ⟨l0, e2, fun h => by cases h⟩
    · rw [h5, cond_true] at e2
      exact ⟨l0, e2, fun h => by cases h⟩
  · obtain ⟨l0, x3, x4⟩ := s
    obtain ⟨h0, h3, h4⟩ := hI
    simp only at h0 h3 h4
    have hc := W.cells i hi
    have hr := W.r64 hi
    have hsm := W.at hi
    have b3 := tot_le (f := fun a => loV q (setAt c pos a)) i fun a ha => by have := V.lo W.k (W.at (Nat.lt_trans ha hi)); omega
    have b4 := tot_le (f := fun a => hiV q (setAt c pos a)) i fun a ha => by have := V.hi W.k (W.at (Nat.lt_trans ha hi)); omega
    have bl := V.lo W.k hsm
    have bh := V.hi W.k hsm
    have hlen := W.len
    rw [← h3] at b3
    rw [← h4] at b4
    have r3 : R64 (x3 + loV q (setAt c pos i)) := R64_iff.2 ⟨by omega, by omega⟩
    have r4 : R64 (x4 + hiV q (setAt c pos i)) := R64_iff.2 ⟨by omega, by omega⟩
    show ∃ s', sumW_l1 n (sumW_m c q pos pos.length lost n) c q pos pos.length lost (i : Int) l0 x3 x4 = _ ∧ _
    unfold sumW_l1
    rw [decide_eq_true (lt i hi), cond_true]
    simp only [Int.toNat_natCast]
    have sa : pos.getD (c.cells.getD i 0).toNat 0 = setAt c pos i := rfl
    rw [if_pos ⟨⟨by omega, lt i hi⟩, hc⟩, sa, ends_some V W.k hsm, Option.bind_some, if_pos ⟨r3, r4, hr.2⟩]
    exact ⟨(l0, x3 + loV q (setAt c pos i), x4 + hiV q (setAt c pos i)), rfl, h0, by simp only [tot]; rw [h3], by simp only [tot]; rw [h4]⟩
end
end Go.Proofs.YtekkngkphejfcaaDoor
namespace Go.Proofs.YtekkngkphejfcaaDoor
open Go.RowKit
set_option maxRecDepth 100000
set_option maxHeartbeats 40000000
def t_riseW_2 : ST := .rd 0 (.rd 1 (.rd 3 (.rd 4 (.ef 2 (.ef 5 (.ef 6 (.ef 7 (.ef 8 (.ef 9 (.fin [0, 1, 2, 3] [1, 3, 4, 5, 58, 91, 92, 104, 148]) (.no)) (.no)) (.no)) (.ef 7 (.ef 6 (.ef 8 (.ef 9 (.fin [0, 1, 3, 2] [1, 3, 4, 5, 58, 91, 92, 104, 148]) (.no)) (.no)) (.no)) (.no))) (.ef 6 (.ef 5 (.ef 7 (.ef 8 (.ef 9 (.fin [0, 2, 1, 3] [1, 3, 4, 5, 58, 91, 92, 104, 148]) (.no)) (.no)) (.no)) (.ef 7 (.ef 5 (.ef 8 (.ef 9 (.fin [0, 3, 1, 2] [1, 3, 4, 5, 58, 91, 92, 104, 148]) (.no)) (.no)) (.ef 8 (.ef 5 (.ef 9 (.fin [0, 3, 1, 2] [1, 3, 4, 5, 58, 91, 92, 104, 148]) (.no)) (.no)) (.no))) (.no))) (.ef 7 (.ef 5 (.ef 6 (.ef 8 (.ef 9 (.fin [0, 2, 3, 1] [1, 3, 4, 5, 58, 91, 92, 104, 148]) (.no)) (.no)) (.no)) (.ef 6 (.ef 5 (.ef 8 (.ef 9 (.fin [0, 3, 2, 1] [1, 3, 4, 5, 58, 91, 92, 104, 148]) (.no)) (.no)) (.ef 8 (.ef 5 (.ef 9 (.fin [0, 3, 2, 1] [1, 3, 4, 5, 58, 91, 92, 104, 148]) (.no)) (.no)) (.no))) (.no))) (.no)))) (.ef 5 (.ef 2 (.ef 6 (.ef 7 (.ef 8 (.ef 9 (.fin [1, 0, 2, 3] [1, 3, 4, 5, 58, 91, 92, 104, 148]) (.no)) (.no)) (.no)) (.ef 7 (.ef 6 (.ef 8 (.ef 9 (.fin [1, 0, 3, 2] [1, 3, 4, 5, 58, 91, 92, 104, 148]) (.no)) (.no)) (.no)) (.no))) (.ef 6 (.ef 2 (.ef 7 (.ef 8 (.ef 9 (.fin [2, 0, 1, 3] [1, 3, 4, 5, 58, 91, 92, 104, 148]) (.no)) (.no)) (.no)) (.ef 7 (.ef 2 (.ef 8 (.ef 9 (.fin [3, 0, 1, 2] [1, 3, 4, 5, 58, 91, 92, 104, 148]) (.no)) (.no)) (.no)) (.no))) (.ef 7 (.ef 2 (.ef 6 (.ef 8 (.ef 9 (.fin [2, 0, 3, 1] [1, 3, 4, 5, 58, 91, 92, 104, 148]) (.no)) (.no)) (.no)) (.ef 6 (.ef 2 (.ef 8 (.ef 9 (.fin [3, 0, 2, 1] [1, 3, 4, 5, 58, 91, 92, 104, 148]) (.no)) (.no)) (.no)) (.no))) (.no)))) (.ef 6 (.ef 2 (.ef 5 (.ef 7 (.ef 8 (.ef 9 (.fin [1, 2, 0, 3] [1, 3, 4, 5, 58, 91, 92, 104, 148]) (.no)) (.no)) (.no)) (.ef 7 (.ef 5 (.ef 8 (.ef 9 (.fin [1, 3, 0, 2] [1, 3, 4, 5, 58, 91, 92, 104, 148]) (.no)) (.no)) (.ef 8 (.ef 5 (.ef 9 (.fin [1, 3, 0, 2] [1, 3, 4, 5, 58, 91, 92, 104, 148]) (.no)) (.no)) (.no))) (.no))) (.ef 5 (.ef 2 (.ef 7 (.ef 8 (.ef 9 (.fin [2, 1, 0, 3] [1, 3, 4, 5, 58, 91, 92, 104, 148]) (.no)) (.no)) (.no)) (.ef 7 (.ef 2 (.ef 8 (.ef 9 (.fin [3, 1, 0, 2] [1, 3, 4, 5, 58, 91, 92, 104, 148]) (.no)) (.no)) (.no)) (.no))) (.ef 7 (.ef 2 (.ef 5 (.ef 8 (.ef 9 (.fin [2, 3, 0, 1] [1, 3, 4, 5, 58, 91, 92, 104, 148]) (.no)) (.no)) (.ef 8 (.ef 5 (.ef 9 (.fin [2, 3, 0, 1] [1, 3, 4, 5, 58, 91, 92, 104, 148]) (.no)) (.no)) (.no))) (.ef 5 (.ef 2 (.ef 8 (.ef 9 (.fin [3, 2, 0, 1] [1, 3, 4, 5, 58, 91, 92, 104, 148]) (.no)) (.no)) (.no)) (.no))) (.no)))) (.ef 7 (.ef 2 (.ef 5 (.ef 6 (.ef 8 (.ef 9 (.fin [1, 2, 3, 0] [1, 3, 4, 5, 58, 91, 92, 104, 148]) (.no)) (.no)) (.no)) (.ef 6 (.ef 5 (.ef 8 (.ef 9 (.fin [1, 3, 2, 0] [1, 3, 4, 5, 58, 91, 92, 104, 148]) (.no)) (.no)) (.ef 8 (.ef 5 (.ef 9 (.fin [1, 3, 2, 0] [1, 3, 4, 5, 58, 91, 92, 104, 148]) (.no)) (.no)) (.no))) (.no))) (.ef 5 (.ef 2 (.ef 6 (.ef 8 (.ef 9 (.fin [2, 1, 3, 0] [1, 3, 4, 5, 58, 91, 92, 104, 148]) (.no)) (.no)) (.no)) (.ef 6 (.ef 2 (.ef 8 (.ef 9 (.fin [3, 1, 2, 0] [1, 3, 4, 5, 58, 91, 92, 104, 148]) (.no)) (.no)) (.no)) (.no))) (.ef 6 (.ef 2 (.ef 5 (.ef 8 (.ef 9 (.fin [2, 3, 1, 0] [1, 3, 4, 5, 58, 91, 92, 104, 148]) (.no)) (.no)) (.ef 8 (.ef 5 (.ef 9 (.fin [2, 3, 1, 0] [1, 3, 4, 5, 58, 91, 92, 104, 148]) (.no)) (.no)) (.no))) (.ef 5 (.ef 2 (.ef 8 (.ef 9 (.fin [3, 2, 1, 0] [1, 3, 4, 5, 58, 91, 92, 104, 148]) (.no)) (.no)) (.no)) (.no))) (.no)))) (.no))))))))
theorem s_riseW_2 : TOk (regF Tryd.f43 2) [2, 5, 6, 7, 8] t_riseW_2 := by unfold TOk; kernel_rfl
def t_riseW_3 : ST := .rd 0 (.rd 1 (.rd 2 (.rd 3 (.ef 4 (.rd 5 (.ef 6 (.fin [] [1, 4, 5, 58, 91, 92, 104, 148]) (.no))) (.no)))))
theorem s_riseW_3 : TOk (regF Tryd.f43 3) [4] t_riseW_3 := by unfold TOk; kernel_rfl
theorem s_riseW_12 : SOk (regF Tryd.f43 12) [] (List.range 11) [11] := by unfold SOk; kernel_rfl
theorem s_riseW_22 : SOk (regF Tryd.f43 22) [] (List.range 9) [9] := by unfold SOk; kernel_rfl
theorem s_riseW_26 : SOk (regF Tryd.f43 26) [([0, 1, 2, 3, 4, 5, 6], 7)] [] [] := by unfold SOk; kernel_rfl
def t_riseW_30 : ST := .rd 0 (.rd 1 (.rd 2 (.rd 3 (.ef 4 (.fin [] [2]) (.no)))))
theorem s_riseW_30 : TOk (regF Tryd.f43 30) [] t_riseW_30 := by unfold TOk; kernel_rfl
def sch_riseW : Sch := fun i => match i with
  | 2 => .tre [2, 5, 6, 7, 8] t_riseW_2
  | 3 => .tre [4] t_riseW_3
  | 12 => .ord [] (List.range 11) [11]
  | 22 => .ord [] (List.range 9) [9]
  | 26 => .ord [([0, 1, 2, 3, 4, 5, 6], 7)] [] []
  | 30 => .tre [] t_riseW_30
  | _ => .no
def tgt_riseW_0 (c : ConsD) (q : ProbD) (pos : List Int) (ln : Nat) (lost : List Int) : St := ⟨(frm 178 [(1, .ref 2 0), (3, .i (c.cells.length : Int)), (4, .ref 5 0), (5, .ref 6 0)]), ([some (.cells (consC c ++ probC q ++ [.ints pos, .msl 1 1 0 ln])), some (.ints lost), some (.cells [.ref 0 0]), some (.ints (List.replicate ((((c.cells.length : Int) + 1)).toNat) (0 : Int))), some (.ints (List.replicate ((((c.cells.length : Int) + 1)).toNat) (0 : Int))), some (.cells [.msl 3 1 0 ((((c.cells.length : Int) + 1)).toNat)]), some (.cells [.msl 4 1 0 ((((c.cells.length : Int) + 1)).toNat)])] : DH)⟩
def tgt_riseW_1 (c : ConsD) (q : ProbD) (pos : List Int) (ln : Nat) (lost : List Int) : St := ⟨(frm 178 [(1, .ref 2 0), (4, .ref 5 0), (5, .ref 6 0)]), ([some (.cells (consC c ++ probC q ++ [.ints pos, .msl 1 1 0 ln])), some (.ints lost), some (.cells [.ref 0 0]), some (.ints ((List.replicate ((((c.cells.length : Int) + 1)).toNat) (0 : Int)).set (0 + 0) (-1))), some (.ints ((List.replicate ((((c.cells.length : Int) + 1)).toNat) (0 : Int)).set (0 + c.cells.length) 100)), some (.cells [.msl 3 1 0 ((((c.cells.length : Int) + 1)).toNat)]), some (.cells [.msl 4 1 0 ((((c.cells.length : Int) + 1)).toNat)])] : DH)⟩
def hp_riseW_2 (c : ConsD) (q : ProbD) (pos : List Int) (ln : Nat) (lost o4 : List Int) (x41 : Int) : DH := [some (.cells (consC c ++ probC q ++ [.ints pos, .msl 1 1 0 ln])), some (.ints lost), some (.cells [.ref 0 0]), some (.cells [.msl 4 1 0 ((((c.cells.length : Int) + 1)).toNat)]), some (.ints (o4.set (0 + (((x41 + 1)).toNat)) 100)), some (.cells [.msl 6 1 0 ((((c.cells.length : Int) + 1)).toNat)]), some (.ints ((List.replicate ((((c.cells.length : Int) + 1)).toNat) (0 : Int)).set (0 + c.cells.length) 100)), some (.cells [.i x41])]
def hp_riseW_3 (c : ConsD) (q : ProbD) (pos : List Int) (ln : Nat) (lost : List Int) (x41 : Int) (o4 : List Int) : DH := [some (.cells (consC c ++ probC q ++ [.ints pos, .msl 1 1 0 ln])), some (.ints lost), some (.cells [.ref 0 0]), some (.cells [.msl 7 1 0 ((((c.cells.length : Int) + 1)).toNat)]), some (.cells [.msl 8 1 0 ((((c.cells.length : Int) + 1)).toNat)]), some (.cells [.i x41]), some (.iter ((symsI (pos.getD ((c.cells.getD ((x41).toNat) 0).toNat) 0)).map encI)), some (.ints (o4.set (0 + (((x41 + 1)).toNat)) 100)), some (.ints ((List.replicate ((((c.cells.length : Int) + 1)).toNat) (0 : Int)).set (0 + c.cells.length) 100))]
def hp_riseW_4 (c : ConsD) (q : ProbD) (pos : List Int) (ln : Nat) (lost o4 : List Int) : DH := [some (.cells (consC c ++ probC q ++ [.ints pos, .msl 1 1 0 ln])), some (.ints lost), some (.cells [.ref 0 0]), some (.cells [.msl 4 1 0 ((((c.cells.length : Int) + 1)).toNat)]), some (.ints o4), some (.cells [.msl 6 1 0 ((((c.cells.length : Int) + 1)).toNat)]), some (.ints ((List.replicate ((((c.cells.length : Int) + 1)).toNat) (0 : Int)).set (0 + c.cells.length) 100))]
def hp_riseW_5 (c : ConsD) (q : ProbD) (pos : List Int) (ln : Nat) (lost : List Int) (y1 : List (Int × Int)) (o4 : List Int) : DH := [some (.cells (consC c ++ probC q ++ [.ints pos, .msl 1 1 0 ln])), some (.ints lost), some (.cells [.ref 0 0]), some (.cells [.msl 6 1 0 ((((c.cells.length : Int) + 1)).toNat)]), some (.cells [.msl 7 1 0 ((((c.cells.length : Int) + 1)).toNat)]), some (.iter ((y1).map encII)), some (.ints o4), some (.ints ((List.replicate ((((c.cells.length : Int) + 1)).toNat) (0 : Int)).set (0 + c.cells.length) 100))]
def hp_riseW_6 (c : ConsD) (q : ProbD) (pos : List Int) (ln : Nat) (o1 o4 o6 : List Int) (x135 : Int) : DH := [some (.cells (consC c ++ probC q ++ [.ints pos, .msl 1 1 0 ln])), some (.ints o1), some (.cells [.ref 0 0]), some (.cells [.msl 4 1 0 ((((c.cells.length : Int) + 1)).toNat)]), some (.ints o4), some (.cells [.msl 6 1 0 ((((c.cells.length : Int) + 1)).toNat)]), some (.ints o6), some (.cells [.i x135]), some (.cells [.i (c.cells.getD ((x135).toNat) 0)])]
def hp_riseW_7 (c : ConsD) (q : ProbD) (pos : List Int) (ln : Nat) (o1 : List Int) (x135 : Int) (o4 o6 : List Int) : DH := [some (.cells (consC c ++ probC q ++ [.ints pos, .msl 1 1 0 ln])), some (.ints o1), some (.cells [.ref 0 0]), some (.cells [.msl 8 1 0 ((((c.cells.length : Int) + 1)).toNat)]), some (.cells [.msl 9 1 0 ((((c.cells.length : Int) + 1)).toNat)]), some (.cells [.i x135]), some (.cells [.i (c.cells.getD ((x135).toNat) 0)]), some (.iter ((symsI (pos.getD ((c.cells.getD ((x135).toNat) 0).toNat) 0)).map encI)), some (.ints o4), some (.ints o6)]
def hp_riseW_8 (c : ConsD) (q : ProbD) (pos : List Int) (ln : Nat) (lost : List Int) (x41 : Int) (r57s0_7 : List Int) : DH := [some (.cells (consC c ++ probC q ++ [.ints pos, .msl 1 1 0 ln])), some (.ints lost), some (.cells [.ref 0 0]), some (.cells [.msl 7 1 0 ((((c.cells.length : Int) + 1)).toNat)]), some (.cells [.msl 8 1 0 ((((c.cells.length : Int) + 1)).toNat)]), some (.cells [.i x41]), none, some (.ints r57s0_7), some (.ints ((List.replicate ((((c.cells.length : Int) + 1)).toNat) (0 : Int)).set (0 + c.cells.length) 100))]
def hp_riseW_9 (c : ConsD) (q : ProbD) (pos : List Int) (ln : Nat) (lost o4 r90s0_7 : List Int) (e90 : Int × Int) : DH := [some (.cells (consC c ++ probC q ++ [.ints pos, .msl 1 1 0 ln])), some (.ints lost), some (.cells [.ref 0 0]), some (.cells [.msl 6 1 0 ((((c.cells.length : Int) + 1)).toNat)]), some (.cells [.msl 7 1 0 ((((c.cells.length : Int) + 1)).toNat)]), none, some (.ints o4), some (.ints r90s0_7), some (.cells [.i e90.1])]
def hp_riseW_10 (c : ConsD) (q : ProbD) (pos : List Int) (ln : Nat) (lost o4 r90s0_7 : List Int) (e90 : Int × Int) : DH := [some (.cells (consC c ++ probC q ++ [.ints pos, .msl 1 1 0 ln])), some (.ints lost), some (.cells [.ref 0 0]), some (.cells [.msl 6 1 0 ((((c.cells.length : Int) + 1)).toNat)]), some (.cells [.msl 7 1 0 ((((c.cells.length : Int) + 1)).toNat)]), none, some (.ints o4), some (.ints (r90s0_7.set (0 + ((e90.1).toNat)) (-1))), some (.cells [.i e90.1])]
def hp_riseW_11 (c : ConsD) (q : ProbD) (pos : List Int) (ln : Nat) (lost : List Int) (e90 : Int × Int) (o4 r90s0_7 : List Int) : DH := [some (.cells (consC c ++ probC q ++ [.ints pos, .msl 1 1 0 ln])), some (.ints lost), some (.cells [.ref 0 0]), some (.cells [.msl 8 1 0 ((((c.cells.length : Int) + 1)).toNat)]), some (.cells [.msl 9 1 0 ((((c.cells.length : Int) + 1)).toNat)]), none, some (.cells [.i e90.1]), some (.iter ((symsI (pos.getD ((e90.2).toNat) 0)).map encI)), some (.ints o4), some (.ints (r90s0_7.set (0 + ((e90.1).toNat)) (-1)))]
def hp_riseW_12 (c : ConsD) (q : ProbD) (pos : List Int) (ln : Nat) (r147s0_1 : List Int) (x135 : Int) (o4 o6 : List Int) : DH := [some (.cells (consC c ++ probC q ++ [.ints pos, .msl 1 1 0 ln])), some (.ints r147s0_1), some (.cells [.ref 0 0]), some (.cells [.msl 8 1 0 ((((c.cells.length : Int) + 1)).toNat)]), some (.cells [.msl 9 1 0 ((((c.cells.length : Int) + 1)).toNat)]), some (.cells [.i x135]), some (.cells [.i (c.cells.getD ((x135).toNat) 0)]), none, some (.ints o4), some (.ints o6)]
def tgt_riseW_13 (c : ConsD) (q : ProbD) (pos : List Int) (ln : Nat) (b147_y1 : (List Int)) (x135 : Int) (o4 o6 : List Int) : St := ⟨(frm 178 []), ([some (.cells (consC c ++ probC q ++ [.ints pos, .msl 1 1 0 ln])), some (.ints b147_y1), some (.cells [.ref 0 0]), some (.cells [.msl 8 1 0 ((((c.cells.length : Int) + 1)).toNat)]), some (.cells [.msl 9 1 0 ((((c.cells.length : Int) + 1)).toNat)]), some (.cells [.i x135]), some (.cells [.i (c.cells.getD ((x135).toNat) 0)]), none, some (.ints o4), some (.ints o6)] : DH)⟩
def hp_riseW_14 (c : ConsD) (q : ProbD) (pos : List Int) (ln : Nat) (lost : List Int) (e90 : Int × Int) (o4 r103s0_9 : List Int) : DH := [some (.cells (consC c ++ probC q ++ [.ints pos, .msl 1 1 0 ln])), some (.ints lost), some (.cells [.ref 0 0]), some (.cells [.msl 8 1 0 ((((c.cells.length : Int) + 1)).toNat)]), some (.cells [.msl 9 1 0 ((((c.cells.length : Int) + 1)).toNat)]), none, some (.cells [.i e90.1]), none, some (.ints o4), some (.ints r103s0_9)]
inductive riseW_b90_b103T where
  | s0 (r103s0_9 : List Int)
def riseW_b90_b103_H (c : ConsD) (q : ProbD) (pos : List Int) (ln : Nat) (lost : List Int) (e90 : Int × Int) (o4 : List Int) : riseW_b90_b103T → DH
  | .s0 r103s0_9 => [some (.cells (consC c ++ probC q ++ [.ints pos, .msl 1 1 0 ln])), some (.ints lost), some (.cells [.ref 0 0]), some (.cells [.msl 8 1 0 ((((c.cells.length : Int) + 1)).toNat)]), some (.cells [.msl 9 1 0 ((((c.cells.length : Int) + 1)).toNat)]), none, some (.cells [.i e90.1]), none, some (.ints o4), some (.ints r103s0_9)]
def riseW_b90_b103_e0 (n : Nat) (c : ConsD) (q : ProbD) (pos : List Int) (ln : Nat) (lost : List Int) (e90 : Int × Int) (o4 : List Int) (e103 : Int) (r103s0_9 : List Int) : Option riseW_b90_b103T :=
  if (0 ≤ e103 ∧ e103 < (q.values.length : Int)) ∧ R64 (e90.1 + 1) ∧ (0 ≤ (e90.1 + 1) ∧ (e90.1 + 1) < (((((c.cells.length : Int) + 1)).toNat : Nat) : Int)) ∧ 0 + (((e90.1 + 1)).toNat) < r103s0_9.length then
   bif (decide ((q.values.getD ((e103).toNat) 0) < (r103s0_9.getD (0 + (((e90.1 + 1)).toNat)) 0))) then
    if (0 ≤ e90.1 ∧ e90.1 < (((((c.cells.length : Int) + 1)).toNat : Nat) : Int)) ∧ 0 + ((e90.1).toNat) < r103s0_9.length then
     some (.s0 (r103s0_9.set (0 + ((e90.1).toNat)) (if (q.values.getD ((e103).toNat) 0) > (r103s0_9.getD (0 + ((e90.1).toNat)) 0) then (q.values.getD ((e103).toNat) 0) else (r103s0_9.getD (0 + ((e90.1).toNat)) 0))))
    else none
   else
    some (.s0 r103s0_9)
  else none
def riseW_b90_b103_l0 (n : Nat) (c : ConsD) (q : ProbD) (pos : List Int) (ln : Nat) (lost : List Int) (e90 : Int × Int) (o4 : List Int) (e103 : Int) : riseW_b90_b103T → Option riseW_b90_b103T
  | .s0 r103s0_9 => riseW_b90_b103_e0 n c q pos ln lost e90 o4 e103 r103s0_9
def riseW_b90_b103 (n : Nat) (c : ConsD) (q : ProbD) (pos : List Int) (ln : Nat) (lost : List Int) (e90 : Int × Int) (o4 : List Int) (e103 : Int) (s : riseW_b90_b103T) : Option riseW_b90_b103T := riseW_b90_b103_l0 n c q pos ln lost e90 o4 e103 s
theorem riseW_b90_b103_ok (n : Nat) (c : ConsD) (q : ProbD) (pos : List Int) (ln : Nat) (lost : List Int) (e90 : Int × Int) (o4 : List Int) (l B : Nat) (N : Yard Tryd.prog GG 8) (e103 : Int) (s : riseW_b90_b103T) (r : riseW_b90_b103T) (h : riseW_b90_b103 n c q pos ln lost e90 o4 e103 s = some r) : TrA Tryd.prog GG (Fence.wide.inRound l) (some B) 8 N (RndQ 8 [] 0 (riseW_b90_b103_H c q pos ln lost e90 o4 r)) (rgA Tryd.f43 103) (rgB Tryd.f43 103) ⟨frm 178 [(1, .ref 2 0), (5, .ref 4 0), (10, .ref 6 0), (103, .it 7), (104, .i e103)], riseW_b90_b103_H c q pos ln lost e90 o4 s⟩ := by
  unfold riseW_b90_b103 at h
  cases s with
  | s0 r103s0_9 =>
    have h : riseW_b90_b103_e0 n c q pos ln lost e90 o4 e103 r103s0_9 = some r := h
    unfold riseW_b90_b103_e0 at h
    refine ag sch_riseW [0, 1, 2, 3, 4, 5, 6, 7, 8, 9] H0 (frm 178 [(1, .ref 2 0), (5, .ref 4 0), (10, .ref 6 0), (12, .i e103)]) (hp_riseW_14 c q pos ln lost e90 o4 r103s0_9) ?_
    intro N
    obtain ⟨⟨b103_g0, b103_g1, b103_g2, b103_g3⟩, h⟩ := guardSome h
    have p := H0.g b103_g0 |>.w 116 b103_g1 |>.g b103_g2 |>.g b103_g3
    rcases bifSome h with ⟨b103_c0, h⟩ | ⟨b103_c0, h⟩
    · obtain ⟨⟨b103_g4, b103_g5⟩, h⟩ := guardSome h
      cases h
      exact rr sch_riseW [0, 1, 2, 3, 4, 5, 6, 7, 8, 9] rfl (p.b 119 b103_c0 |>.g s_riseW_22 |>.g b103_g4 |>.g b103_g5 |>.g b103_g4 |>.g b103_g5)
    · cases h
      exact rr sch_riseW [0, 1, 2, 3, 4, 5, 6, 7, 8, 9] rfl (p.b 119 b103_c0)
inductive riseW_b147T where
  | s0 (r147s0_1 : List Int)
def riseW_b147_H (c : ConsD) (x135 : Int) (q : ProbD) (pos : List Int) (ln : Nat) (o4 o6 : List Int) : riseW_b147T → DH
  | .s0 r147s0_1 => [some (.cells (consC c ++ probC q ++ [.ints pos, .msl 1 1 0 ln])), some (.ints r147s0_1), some (.cells [.ref 0 0]), some (.cells [.msl 8 1 0 ((((c.cells.length : Int) + 1)).toNat)]), some (.cells [.msl 9 1 0 ((((c.cells.length : Int) + 1)).toNat)]), some (.cells [.i x135]), some (.cells [.i (c.cells.getD ((x135).toNat) 0)]), none, some (.ints o4), some (.ints o6)]
def riseW_b147_e0 (n : Nat) (c : ConsD) (x135 : Int) (q : ProbD) (pos : List Int) (ln : Nat) (o4 o6 : List Int) (e147 : Int) (r147s0_1 : List Int) : Option riseW_b147T :=
  if (0 ≤ e147 ∧ e147 < (q.values.length : Int)) ∧ (0 ≤ x135 ∧ x135 < (((((c.cells.length : Int) + 1)).toNat : Nat) : Int)) ∧ 0 + ((x135).toNat) < o4.length then
   bif (decide ((q.values.getD ((e147).toNat) 0) ≤ (o4.getD (0 + ((x135).toNat)) 0))) then
    if 0 ≤ e147 ∧ e147 ≤ (IntKind.i64.bits : Int) then
     (loseW n (c.cells.getD ((x135).toNat) 0) (IntKind.i64.wrap (1 * 2 ^ (e147).toNat)) c q pos ln r147s0_1).bind fun b147_y1 =>
      some (.s0 b147_y1)
    else none
   else
    if R64 (x135 + 1) ∧ (0 ≤ (x135 + 1) ∧ (x135 + 1) < (((((c.cells.length : Int) + 1)).toNat : Nat) : Int)) ∧ 0 + (((x135 + 1)).toNat) < o6.length then
     bif (decide ((q.values.getD ((e147).toNat) 0) ≥ (o6.getD (0 + (((x135 + 1)).toNat)) 0))) then
      if 0 ≤ e147 ∧ e147 ≤ (IntKind.i64.bits : Int) then
       (loseW n (c.cells.getD ((x135).toNat) 0) (IntKind.i64.wrap (1 * 2 ^ (e147).toNat)) c q pos ln r147s0_1).bind fun b147_y1 =>
        some (.s0 b147_y1)
      else none
     else
      some (.s0 r147s0_1)
    else none
  else none
def riseW_b147_l0 (n : Nat) (c : ConsD) (x135 : Int) (q : ProbD) (pos : List Int) (ln : Nat) (o4 o6 : List Int) (e147 : Int) : riseW_b147T → Option riseW_b147T
  | .s0 r147s0_1 => riseW_b147_e0 n c x135 q pos ln o4 o6 e147 r147s0_1
def riseW_b147 (n : Nat) (c : ConsD) (x135 : Int) (q : ProbD) (pos : List Int) (ln : Nat) (o4 o6 : List Int) (e147 : Int) (s : riseW_b147T) : Option riseW_b147T := riseW_b147_l0 n c x135 q pos ln o4 o6 e147 s
theorem riseW_b147_ok (n : Nat) (c : ConsD) (x135 : Int) (q : ProbD) (pos : List Int) (ln : Nat) (o4 o6 : List Int) (l B : Nat) (N : Yard Tryd.prog GG 8) (e147 : Int) (s : riseW_b147T) (r : riseW_b147T) (h : riseW_b147 n c x135 q pos ln o4 o6 e147 s = some r) : TrA Tryd.prog GG (Fence.wide.inRound l) (some B) 8 N (RndQ 8 [] 0 (riseW_b147_H c x135 q pos ln o4 o6 r)) (rgA Tryd.f43 147) (rgB Tryd.f43 147) ⟨frm 178 [(1, .ref 2 0), (4, .ref 3 0), (5, .ref 4 0), (14, .ref 5 0), (15, .ref 6 0), (133, .ints c.cells), (134, .i (c.cells.length : Int)), (135, .i x135), (147, .it 7), (148, .i e147)], riseW_b147_H c x135 q pos ln o4 o6 s⟩ := by
  unfold riseW_b147 at h
  cases s with
  | s0 r147s0_1 =>
    have h : riseW_b147_e0 n c x135 q pos ln o4 o6 e147 r147s0_1 = some r := h
    unfold riseW_b147_e0 at h
    refine ag sch_riseW [0, 1, 2, 3, 4, 5, 6, 7, 8, 9] H0 (frm 178 [(1, .ref 2 0), (4, .ref 3 0), (5, .ref 4 0), (14, .ref 5 0), (15, .ref 6 0), (16, .i e147)]) (hp_riseW_12 c q pos ln r147s0_1 x135 o4 o6) ?_
    intro N
    obtain ⟨⟨b147_g0, b147_g1, b147_g2⟩, h⟩ := guardSome h
    have p := H0.g b147_g0 |>.g b147_g1 |>.g b147_g2
    rcases bifSome h with ⟨b147_c0, h⟩ | ⟨b147_c0, h⟩
    · obtain ⟨b147_g3, h⟩ := guardSome h
      obtain ⟨b147_y1, hb147_y1, h⟩ := bindSome h
      cases h
      exact rr (tg := [([], (tgt_riseW_13 c q pos ln b147_y1 x135 o4 o6))]) sch_riseW [0, 1, 2, 3, 4, 5, 6, 7, 8, 9] rfl (p.b 162 b147_c0 |>.g s_riseW_30 |>.g b147_g3 |>.c (em (loseW_ok hb147_y1) [0, 1] (hp_riseW_12 c q pos ln r147s0_1 x135 o4 o6)) |>.g (Eq.refl (tgt_riseW_13 c q pos ln b147_y1 x135 o4 o6)))
    · obtain ⟨⟨b147_g3, b147_g4, b147_g5⟩, h⟩ := guardSome h
      have p := p.b 162 b147_c0 |>.w 167 b147_g3 |>.g b147_g4 |>.g b147_g5
      rcases bifSome h with ⟨b147_c1, h⟩ | ⟨b147_c1, h⟩
      · obtain ⟨b147_g6, h⟩ := guardSome h
        obtain ⟨b147_y1, hb147_y1, h⟩ := bindSome h
        cases h
        exact rr (tg := [([], (tgt_riseW_13 c q pos ln b147_y1 x135 o4 o6))]) sch_riseW [0, 1, 2, 3, 4, 5, 6, 7, 8, 9] rfl (p.b 170 b147_c1 |>.g s_riseW_30 |>.g b147_g6 |>.c (em (loseW_ok hb147_y1) [0, 1] (hp_riseW_12 c q pos ln r147s0_1 x135 o4 o6)) |>.g (Eq.refl (tgt_riseW_13 c q pos ln b147_y1 x135 o4 o6)))
      · cases h
        exact rr sch_riseW [0, 1, 2, 3, 4, 5, 6, 7, 8, 9] rfl (p.b 170 b147_c1)
inductive riseW_b90T where
  | s0 (r90s0_7 : List Int)
def riseW_b90_H (c : ConsD) (q : ProbD) (pos : List Int) (ln : Nat) (lost o4 : List Int) : riseW_b90T → DH
  | .s0 r90s0_7 => [some (.cells (consC c ++ probC q ++ [.ints pos, .msl 1 1 0 ln])), some (.ints lost), some (.cells [.ref 0 0]), some (.cells [.msl 6 1 0 ((((c.cells.length : Int) + 1)).toNat)]), some (.cells [.msl 7 1 0 ((((c.cells.length : Int) + 1)).toNat)]), none, some (.ints o4), some (.ints r90s0_7)]
def riseW_b90_e0 (n : Nat) (c : ConsD) (q : ProbD) (pos : List Int) (ln : Nat) (lost o4 : List Int) (e90 : Int × Int) (r90s0_7 : List Int) : Option riseW_b90T :=
  if (0 ≤ e90.1 ∧ e90.1 < (((((c.cells.length : Int) + 1)).toNat : Nat) : Int)) ∧ 0 + ((e90.1).toNat) < r90s0_7.length ∧ (0 ≤ e90.2 ∧ e90.2 < (pos.length : Int)) ∧ (0 ≤ (pos.getD ((e90.2).toNat) 0) ∧ (pos.getD ((e90.2).toNat) 0) < 9223372036854775808) then
   (foldO (riseW_b90_b103 n c q pos ln lost e90 o4) (symsI (pos.getD ((e90.2).toNat) 0)) (.s0 (r90s0_7.set (0 + ((e90.1).toNat)) (-1)))).bind fun b90_y1 =>
    match b90_y1 with
    | .s0 b90_y1_0_0 =>
     some (.s0 b90_y1_0_0)
  else none
def riseW_b90_l0 (n : Nat) (c : ConsD) (q : ProbD) (pos : List Int) (ln : Nat) (lost o4 : List Int) (e90 : Int × Int) : riseW_b90T → Option riseW_b90T
  | .s0 r90s0_7 => riseW_b90_e0 n c q pos ln lost o4 e90 r90s0_7
def riseW_b90 (n : Nat) (c : ConsD) (q : ProbD) (pos : List Int) (ln : Nat) (lost o4 : List Int) (e90 : Int × Int) (s : riseW_b90T) : Option riseW_b90T := riseW_b90_l0 n c q pos ln lost o4 e90 s
theorem riseW_b90_ok (n : Nat) (c : ConsD) (q : ProbD) (pos : List Int) (ln : Nat) (lost o4 : List Int) (l B : Nat) (N : Yard Tryd.prog GG 6) (e90 : Int × Int) (s : riseW_b90T) (r : riseW_b90T) (h : riseW_b90 n c q pos ln lost o4 e90 s = some r) : TrA Tryd.prog GG (Fence.wide.inRound l) (some B) 6 N (RndQ 6 [] 0 (riseW_b90_H c q pos ln lost o4 r)) (rgA Tryd.f43 90) (rgB Tryd.f43 90) ⟨frm 178 [(1, .ref 2 0), (4, .ref 3 0), (5, .ref 4 0), (90, .it 5), (91, .i e90.1), (92, .i e90.2)], riseW_b90_H c q pos ln lost o4 s⟩ := by
  unfold riseW_b90 at h
  cases s with
  | s0 r90s0_7 =>
    have h : riseW_b90_e0 n c q pos ln lost o4 e90 r90s0_7 = some r := h
    unfold riseW_b90_e0 at h
    refine ag sch_riseW [0, 1, 2, 3, 4, 5, 6, 7, 8] (H0.t) (frm 178 [(1, .ref 2 0), (5, .ref 4 0), (10, .ref 8 0), (11, .i e90.2)]) (hp_riseW_9 c q pos ln lost o4 r90s0_7 e90) ?_
    intro N
    obtain ⟨⟨b90_g0, b90_g1, b90_g2, b90_g3⟩, h⟩ := guardSome h
    obtain ⟨b90_y1, hb90_y1, h⟩ := bindSome h
    refine gs sch_riseW [0, 1, 2, 3, 4, 5, 8, 9, 6, 7] (H0.g b90_g0 |>.g b90_g1 |>.g b90_g2 |>.c (symbols_it b90_g3 (hp_riseW_10 c q pos ln lost o4 r90s0_7 e90))) (atT (rgB Tryd.f43 90) 103 []) (frm 178 [(1, .ref 2 0), (5, .ref 4 0), (10, .ref 6 0), (103, .it 7)]) (hp_riseW_11 c q pos ln lost e90 o4 r90s0_7) ?_
    refine r0 7 103 #[104] encI 8 hb90_y1 (riseW_b90_b103_ok n c q pos ln lost e90 o4) ?_
    cases b90_y1 with
    | s0 b90_y1_0_0 =>
      dsimp only at h
      cases h
      exact rr sch_riseW [0, 1, 2, 3, 4, 5, 8, 9] rfl H0
inductive riseW_b57T where
  | s0 (r57s0_7 : List Int)
def riseW_b57_H (c : ConsD) (x41 : Int) (q : ProbD) (pos : List Int) (ln : Nat) (lost : List Int) : riseW_b57T → DH
  | .s0 r57s0_7 => [some (.cells (consC c ++ probC q ++ [.ints pos, .msl 1 1 0 ln])), some (.ints lost), some (.cells [.ref 0 0]), some (.cells [.msl 7 1 0 ((((c.cells.length : Int) + 1)).toNat)]), some (.cells [.msl 8 1 0 ((((c.cells.length : Int) + 1)).toNat)]), some (.cells [.i x41]), none, some (.ints r57s0_7), some (.ints ((List.replicate ((((c.cells.length : Int) + 1)).toNat) (0 : Int)).set (0 + c.cells.length) 100))]
def riseW_b57_e0 (n : Nat) (c : ConsD) (x41 : Int) (q : ProbD) (pos : List Int) (ln : Nat) (lost : List Int) (e57 : Int) (r57s0_7 : List Int) : Option riseW_b57T :=
  if (0 ≤ e57 ∧ e57 < (q.values.length : Int)) ∧ (0 ≤ x41 ∧ x41 < (((((c.cells.length : Int) + 1)).toNat : Nat) : Int)) ∧ 0 + ((x41).toNat) < r57s0_7.length then
   bif (decide ((q.values.getD ((e57).toNat) 0) > (r57s0_7.getD (0 + ((x41).toNat)) 0))) then
    if R64 (x41 + 1) ∧ (0 ≤ (x41 + 1) ∧ (x41 + 1) < (((((c.cells.length : Int) + 1)).toNat : Nat) : Int)) ∧ 0 + (((x41 + 1)).toNat) < r57s0_7.length then
     some (.s0 (r57s0_7.set (0 + (((x41 + 1)).toNat)) (if (q.values.getD ((e57).toNat) 0) < (r57s0_7.getD (0 + (((x41 + 1)).toNat)) 0) then (q.values.getD ((e57).toNat) 0) else (r57s0_7.getD (0 + (((x41 + 1)).toNat)) 0))))
    else none
   else
    some (.s0 r57s0_7)
  else none
def riseW_b57_l0 (n : Nat) (c : ConsD) (x41 : Int) (q : ProbD) (pos : List Int) (ln : Nat) (lost : List Int) (e57 : Int) : riseW_b57T → Option riseW_b57T
  | .s0 r57s0_7 => riseW_b57_e0 n c x41 q pos ln lost e57 r57s0_7
def riseW_b57 (n : Nat) (c : ConsD) (x41 : Int) (q : ProbD) (pos : List Int) (ln : Nat) (lost : List Int) (e57 : Int) (s : riseW_b57T) : Option riseW_b57T := riseW_b57_l0 n c x41 q pos ln lost e57 s
theorem riseW_b57_ok (n : Nat) (c : ConsD) (x41 : Int) (q : ProbD) (pos : List Int) (ln : Nat) (lost : List Int) (l B : Nat) (N : Yard Tryd.prog GG 7) (e57 : Int) (s : riseW_b57T) (r : riseW_b57T) (h : riseW_b57 n c x41 q pos ln lost e57 s = some r) : TrA Tryd.prog GG (Fence.wide.inRound l) (some B) 7 N (RndQ 7 [] 0 (riseW_b57_H c x41 q pos ln lost r)) (rgA Tryd.f43 57) (rgB Tryd.f43 57) ⟨frm 178 [(1, .ref 2 0), (4, .ref 3 0), (5, .ref 4 0), (6, .ref 5 0), (39, .ints c.cells), (40, .i (c.cells.length : Int)), (41, .i x41), (57, .it 6), (58, .i e57)], riseW_b57_H c x41 q pos ln lost s⟩ := by
  unfold riseW_b57 at h
  cases s with
  | s0 r57s0_7 =>
    have h : riseW_b57_e0 n c x41 q pos ln lost e57 r57s0_7 = some r := h
    unfold riseW_b57_e0 at h
    refine ag sch_riseW [0, 1, 2, 3, 4, 5, 6, 7, 8] H0 (frm 178 [(1, .ref 2 0), (4, .ref 3 0), (6, .ref 5 0), (8, .i e57)]) (hp_riseW_8 c q pos ln lost x41 r57s0_7) ?_
    intro N
    obtain ⟨⟨b57_g0, b57_g1, b57_g2⟩, h⟩ := guardSome h
    have p := H0.g b57_g0 |>.g b57_g1 |>.g b57_g2
    rcases bifSome h with ⟨b57_c0, h⟩ | ⟨b57_c0, h⟩
    · obtain ⟨⟨b57_g3, b57_g4, b57_g5⟩, h⟩ := guardSome h
      cases h
      exact rr sch_riseW [0, 1, 2, 3, 4, 5, 6, 7, 8] rfl (p.b 72 b57_c0 |>.g s_riseW_12 |>.w 75 b57_g3 |>.w 78 b57_g3 |>.g b57_g4 |>.g b57_g5 |>.g b57_g4 |>.g b57_g5)
    · cases h
      exact rr sch_riseW [0, 1, 2, 3, 4, 5, 6, 7, 8] rfl (p.b 72 b57_c0)
inductive riseWPt where
  | l1 (x41 : Int) (o4 : List Int)
  | l2 (x135 : Int) (o1 o4 o6 : List Int)
def riseW_l1 (n : Nat) (self : riseWPt → Option (Bool × (List Int))) (c : ConsD) (q : ProbD) (pos : List Int) (ln : Nat) (lost : List Int) (x41 : Int) (o4 : List Int) : Option (Bool × (List Int)) :=
  bif (decide (x41 < (c.cells.length : Int))) then
   if (0 ≤ x41 ∧ x41 < (c.cells.length : Int)) ∧ R64 (x41 + 1) ∧ (0 ≤ (x41 + 1) ∧ (x41 + 1) < (((((c.cells.length : Int) + 1)).toNat : Nat) : Int)) ∧ 0 + (((x41 + 1)).toNat) < o4.length ∧ (0 ≤ (c.cells.getD ((x41).toNat) 0) ∧ (c.cells.getD ((x41).toNat) 0) < (pos.length : Int)) ∧ (0 ≤ (pos.getD ((c.cells.getD ((x41).toNat) 0).toNat) 0) ∧ (pos.getD ((c.cells.getD ((x41).toNat) 0).toNat) 0) < 9223372036854775808) then
    (foldO (riseW_b57 n c x41 q pos ln lost) (symsI (pos.getD ((c.cells.getD ((x41).toNat) 0).toNat) 0)) (.s0 (o4.set (0 + (((x41 + 1)).toNat)) 100))).bind fun y1 =>
     match y1 with
     | .s0 y1_0_0 =>
      if R64 (x41 + 1) then
       self (.l1 (x41 + 1) y1_0_0)
      else none
   else none
  else
   (back n c.cells).bind fun y1 =>
    (foldO (riseW_b90 n c q pos ln lost o4) y1 (.s0 ((List.replicate ((((c.cells.length : Int) + 1)).toNat) (0 : Int)).set (0 + c.cells.length) 100))).bind fun y2 =>
     match y2 with
     | .s0 y2_0_0 =>
      self (.l2 0 lost o4 y2_0_0)
def riseW_l2 (n : Nat) (self : riseWPt → Option (Bool × (List Int))) (c : ConsD) (q : ProbD) (pos : List Int) (ln : Nat) (lost : List Int) (x135 : Int) (o1 o4 o6 : List Int) : Option (Bool × (List Int)) :=
  bif (decide (x135 < (c.cells.length : Int))) then
   if (0 ≤ x135 ∧ x135 < (c.cells.length : Int)) ∧ (0 ≤ (c.cells.getD ((x135).toNat) 0) ∧ (c.cells.getD ((x135).toNat) 0) < (pos.length : Int)) ∧ (0 ≤ (pos.getD ((c.cells.getD ((x135).toNat) 0).toNat) 0) ∧ (pos.getD ((c.cells.getD ((x135).toNat) 0).toNat) 0) < 9223372036854775808) then
    (foldO (riseW_b147 n c x135 q pos ln o4 o6) (symsI (pos.getD ((c.cells.getD ((x135).toNat) 0).toNat) 0)) (.s0 o1)).bind fun y1 =>
     match y1 with
     | .s0 y1_0_0 =>
      if R64 (x135 + 1) then
       self (.l2 (x135 + 1) y1_0_0 o4 o6)
      else none
   else none
  else
   some (true, o1)
def riseW_l0 (n : Nat) (self : riseWPt → Option (Bool × (List Int))) (c : ConsD) (q : ProbD) (pos : List Int) (ln : Nat) (lost : List Int) : Option (Bool × (List Int)) :=
  if R64 ((c.cells.length : Int) + 1) ∧ ((((c.cells.length : Int) + 1) : Int) = ((c.cells.length : Int) + 1) ∧ (0 : Int) ≤ ((c.cells.length : Int) + 1) ∧ (((c.cells.length : Int) + 1) : Int) ≤ 1000000000000) ∧ ((0 : Int) ≤ 0 ∧ 0 < (((((c.cells.length : Int) + 1)).toNat : Nat) : Int)) ∧ 0 + 0 < (List.replicate ((((c.cells.length : Int) + 1)).toNat) (0 : Int)).length ∧ (0 ≤ (c.cells.length : Int) ∧ (c.cells.length : Int) < (((((c.cells.length : Int) + 1)).toNat : Nat) : Int)) ∧ 0 + c.cells.length < (List.replicate ((((c.cells.length : Int) + 1)).toNat) (0 : Int)).length then
   self (.l1 0 ((List.replicate ((((c.cells.length : Int) + 1)).toNat) (0 : Int)).set (0 + 0) (-1)))
  else none
def riseW_m (c : ConsD) (q : ProbD) (pos : List Int) (ln : Nat) (lost : List Int) : Nat → riseWPt → Option (Bool × (List Int))
  | 0, _ => none
  | n + 1, .l1 x41 o4 => riseW_l1 n (riseW_m c q pos ln lost n) c q pos ln lost x41 o4
  | n + 1, .l2 x135 o1 o4 o6 => riseW_l2 n (riseW_m c q pos ln lost n) c q pos ln lost x135 o1 o4 o6
def riseW (n : Nat) (c : ConsD) (q : ProbD) (pos : List Int) (ln : Nat) (lost : List Int) : Option (Bool × (List Int)) := riseW_l0 n (riseW_m c q pos ln lost n) c q pos ln lost
/-- What the points stand for. -/
def riseW_at (n : Nat) (B : Nat) (N : Yard Tryd.prog GG 2) (c : ConsD) (q : ProbD) (pos : List Int) (ln : Nat) (lost : List Int) (r : Bool × (List Int)) : riseWPt → Prop
  | .l1 x41 o4 => ∀ m0 : Nat, n ≤ m0 → TrK Tryd.prog GG Fence.wide (some B) 2 N (Fin Tryd.prog Tryd.f43 2 (.bool r.1) [some (.cells (consC c ++ probC q ++ [.ints pos, .msl 1 1 0 ln])), some (.ints r.2)]) (toN m0 (atNC (bodyC Tryd.f43) 0 [])) ⟨frm 178 [(1, .ref 2 0), (4, .ref 3 0), (5, .ref 5 0), (39, .ints c.cells), (40, .i (c.cells.length : Int)), (41, .i x41)], [some (.cells (consC c ++ probC q ++ [.ints pos, .msl 1 1 0 ln])), some (.ints lost), some (.cells [.ref 0 0]), some (.cells [.msl 4 1 0 ((((c.cells.length : Int) + 1)).toNat)]), some (.ints o4), some (.cells [.msl 6 1 0 ((((c.cells.length : Int) + 1)).toNat)]), some (.ints ((List.replicate ((((c.cells.length : Int) + 1)).toNat) (0 : Int)).set (0 + c.cells.length) 100))]⟩
  | .l2 x135 o1 o4 o6 => ∀ m0 : Nat, n ≤ m0 → TrK Tryd.prog GG Fence.wide (some B) 2 N (Fin Tryd.prog Tryd.f43 2 (.bool r.1) [some (.cells (consC c ++ probC q ++ [.ints pos, .msl 1 1 0 ln])), some (.ints r.2)]) (toN m0 (atNC (bodyC Tryd.f43) 8 [])) ⟨frm 178 [(1, .ref 2 0), (4, .ref 3 0), (5, .ref 5 0), (133, .ints c.cells), (134, .i (c.cells.length : Int)), (135, .i x135)], [some (.cells (consC c ++ probC q ++ [.ints pos, .msl 1 1 0 ln])), some (.ints o1), some (.cells [.ref 0 0]), some (.cells [.msl 4 1 0 ((((c.cells.length : Int) + 1)).toNat)]), some (.ints o4), some (.cells [.msl 6 1 0 ((((c.cells.length : Int) + 1)).toNat)]), some (.ints o6)]⟩
theorem riseW_all (B : Nat) (N : Yard Tryd.prog GG 2) (c : ConsD) (q : ProbD) (pos : List Int) (ln : Nat) (lost : List Int) : ∀ (n : Nat) (pt : riseWPt) (r : Bool × (List Int)), riseW_m c q pos ln lost n pt = some r → riseW_at n B N c q pos ln lost r pt := by
  intro n; induction n with
  | zero => intro _ _ h; cases h
  | succ n hself =>
   intro pt r h
   cases pt
   case l1 x41 o4 =>
    have h : riseW_l1 n (riseW_m c q pos ln lost n) c q pos ln lost x41 o4 = some r := h
    intro m0 hm0
    refine rd hm0 fun m0 hm0 => ?_
    unfold riseW_l1 at h
    rcases bifSome h with ⟨c0, h⟩ | ⟨c0, h⟩
    · obtain ⟨⟨g0, g1, g2, g3, g4, g5⟩, h⟩ := guardSome h
      obtain ⟨y1, hy1, h⟩ := bindSome h
      refine gs sch_riseW [0, 1, 2, 3, 5, 7, 8, 4, 6] (H0.b 42 c0 |>.g g0 |>.t |>.w 48 g1 |>.g g2 |>.g g3 |>.g g4 |>.c (symbols_it g5 (hp_riseW_2 c q pos ln lost o4 x41))) (atT (bodyC Tryd.f43) 57 [m0]) (frm 178 [(1, .ref 2 0), (4, .ref 3 0), (5, .ref 4 0), (6, .ref 5 0), (39, .ints c.cells), (40, .i (c.cells.length : Int)), (41, .i x41), (57, .it 6)]) (hp_riseW_3 c q pos ln lost x41 o4) ?_
      refine r0 6 57 #[58] encI 7 hy1 (riseW_b57_ok n c x41 q pos ln lost) ?_
      cases y1 with
      | s0 y1_0_0 =>
        dsimp only at h
        obtain ⟨g6, h⟩ := guardSome h
        exact gg sch_riseW [0, 1, 2, 3, 7, 4, 8] (H0.w 84 g6) (hself _ _ h m0 hm0)
    · obtain ⟨y1, hy1, h⟩ := bindSome h
      obtain ⟨y2, hy2, h⟩ := bindSome h
      refine gs sch_riseW [0, 1, 2, 3, 5, 7, 4, 6] (H0.b 42 c0 |>.c (backM_iter hy1 (hp_riseW_4 c q pos ln lost o4))) (atT (bodyC Tryd.f43) 90 []) (frm 178 [(1, .ref 2 0), (4, .ref 3 0), (5, .ref 4 0), (90, .it 5)]) (hp_riseW_5 c q pos ln lost y1 o4) ?_
      refine r0 5 90 #[91, 92] encII 6 hy2 (riseW_b90_ok n c q pos ln lost o4) ?_
      cases y2 with
      | s0 y2_0_0 =>
        dsimp only at h
        exact gg sch_riseW [0, 1, 2, 3, 6, 4, 7] H0 (en n (hself _ _ h n (Nat.le_refl _)))
   case l2 x135 o1 o4 o6 =>
    have h : riseW_l2 n (riseW_m c q pos ln lost n) c q pos ln lost x135 o1 o4 o6 = some r := h
    intro m0 hm0
    refine rd hm0 fun m0 hm0 => ?_
    unfold riseW_l2 at h
    rcases bifSome h with ⟨c0, h⟩ | ⟨c0, h⟩
    · obtain ⟨⟨g0, g1, g2⟩, h⟩ := guardSome h
      obtain ⟨y1, hy1, h⟩ := bindSome h
      refine gs sch_riseW [0, 1, 2, 3, 5, 7, 8, 9, 4, 6] (H0.b 136 c0 |>.g g0 |>.t |>.t |>.g s_riseW_26 |>.g g1 |>.c (symbols_it g2 (hp_riseW_6 c q pos ln o1 o4 o6 x135))) (atT (bodyC Tryd.f43) 147 [m0]) (frm 178 [(1, .ref 2 0), (4, .ref 3 0), (5, .ref 4 0), (14, .ref 5 0), (15, .ref 6 0), (133, .ints c.cells), (134, .i (c.cells.length : Int)), (135, .i x135), (147, .it 7)]) (hp_riseW_7 c q pos ln o1 x135 o4 o6) ?_
      refine r0 7 147 #[148] encI 8 hy1 (riseW_b147_ok n c x135 q pos ln o4 o6) ?_
      cases y1 with
      | s0 y1_0_0 =>
        dsimp only at h
        obtain ⟨g3, h⟩ := guardSome h
        exact gg sch_riseW [0, 1, 2, 3, 8, 4, 9] (H0.w 177 g3) (hself _ _ h m0 hm0)
    · cases h
      exact ee sch_riseW [2] [0, 1] (H0.b 136 c0)
theorem riseW_ok {n : Nat} {c : ConsD} {q : ProbD} {pos : List Int} {ln : Nat} {lost : List Int} {r : Bool × (List Int)} (h : riseW n c q pos ln lost = some r) : ES Tryd.prog GG 43 [.ref 0 0] [some (.cells (consC c ++ probC q ++ [.ints pos, .msl 1 1 0 ln])), some (.ints lost)] (.bool r.1) [some (.cells (consC c ++ probC q ++ [.ints pos, .msl 1 1 0 ln])), some (.ints r.2)] false := by
  refine ot Tryd.func43 fun B N => ?_
  have hself := riseW_all B N c q pos ln lost n
  unfold riseW at h
  unfold riseW_l0 at h
  obtain ⟨⟨g0, g1, g2, g3, g4, g5⟩, h⟩ := guardSome h
  exact gg (tg := [([], (tgt_riseW_0 c q pos ln lost)), ([(4, 3)], (tgt_riseW_1 c q pos ln lost))]) sch_riseW [0, 1, 2, 5, 3, 6, 4] (H0.g s_riseW_2 |>.w 25 g0 |>.w 28 g0 |>.g g1 |>.g g1 |>.t |>.t |>.g (Eq.refl (tgt_riseW_0 c q pos ln lost)) |>.t |>.t |>.g (Eq.refl (tgt_riseW_0 c q pos ln lost)) |>.g g1 |>.t |>.t |>.g (Eq.refl (tgt_riseW_0 c q pos ln lost)) |>.g g1 |>.t |>.t |>.g (Eq.refl (tgt_riseW_0 c q pos ln lost)) |>.t |>.g g1 |>.t |>.g (Eq.refl (tgt_riseW_0 c q pos ln lost)) |>.g g1 |>.t |>.t |>.g (Eq.refl (tgt_riseW_0 c q pos ln lost)) |>.g g1 |>.t |>.t |>.g (Eq.refl (tgt_riseW_0 c q pos ln lost)) |>.t |>.g g1 |>.t |>.g (Eq.refl (tgt_riseW_0 c q pos ln lost)) |>.g g1 |>.g g1 |>.t |>.t |>.g (Eq.refl (tgt_riseW_0 c q pos ln lost)) |>.t |>.t |>.g (Eq.refl (tgt_riseW_0 c q pos ln lost)) |>.g g1 |>.t |>.t |>.g (Eq.refl (tgt_riseW_0 c q pos ln lost)) |>.g g1 |>.t |>.t |>.g (Eq.refl (tgt_riseW_0 c q pos ln lost)) |>.g g1 |>.t |>.t |>.g (Eq.refl (tgt_riseW_0 c q pos ln lost)) |>.g g1 |>.t |>.t |>.g (Eq.refl (tgt_riseW_0 c q pos ln lost)) |>.g g1 |>.g g1 |>.t |>.t |>.g (Eq.refl (tgt_riseW_0 c q pos ln lost)) |>.g g1 |>.t |>.t |>.g (Eq.refl (tgt_riseW_0 c q pos ln lost)) |>.t |>.g g1 |>.t |>.g (Eq.refl (tgt_riseW_0 c q pos ln lost)) |>.g g1 |>.g g1 |>.t |>.t |>.g (Eq.refl (tgt_riseW_0 c q pos ln lost)) |>.g g1 |>.t |>.t |>.g (Eq.refl (tgt_riseW_0 c q pos ln lost)) |>.g g1 |>.g g1 |>.t |>.t |>.g (Eq.refl (tgt_riseW_0 c q pos ln lost)) |>.t |>.g g1 |>.t |>.g (Eq.refl (tgt_riseW_0 c q pos ln lost)) |>.g g1 |>.g g1 |>.t |>.t |>.g (Eq.refl (tgt_riseW_0 c q pos ln lost)) |>.g g1 |>.g g1 |>.t |>.t |>.g (Eq.refl (tgt_riseW_0 c q pos ln lost)) |>.g g1 |>.t |>.t |>.g (Eq.refl (tgt_riseW_0 c q pos ln lost)) |>.t |>.g g1 |>.t |>.g (Eq.refl (tgt_riseW_0 c q pos ln lost)) |>.g g1 |>.g g1 |>.t |>.t |>.g (Eq.refl (tgt_riseW_0 c q pos ln lost)) |>.g g1 |>.t |>.t |>.g (Eq.refl (tgt_riseW_0 c q pos ln lost)) |>.g g1 |>.g g1 |>.t |>.t |>.g (Eq.refl (tgt_riseW_0 c q pos ln lost)) |>.t |>.g g1 |>.t |>.g (Eq.refl (tgt_riseW_0 c q pos ln lost)) |>.g g1 |>.g g1 |>.t |>.t |>.g (Eq.refl (tgt_riseW_0 c q pos ln lost)) |>.g s_riseW_3 |>.g g2 |>.g g3 |>.g g4 |>.g g5 |>.g (Eq.refl (tgt_riseW_1 c q pos ln lost))) (en n (hself _ _ h n (Nat.le_refl _)))
end Go.Proofs.YtekkngkphejfcaaDoor
namespace Go.Proofs.YtekkngkphejfcaaDoor
open Go.RowKit
theorem getD_set_self {l : List Int} {i : Nat} {a : Int} (h : i < l.length) : (l.set i a).getD i 0 = a := by
  rw [List.getD_eq_getElem?_getD, List.getElem?_set_self h]; rfl
theorem getD_set_ne {l : List Int} {i j : Nat} {a : Int} (h : i ≠ j) : (l.set i a).getD j 0 = l.getD j 0 := by
  rw [List.getD_eq_getElem?_getD, List.getElem?_set_ne h, ← List.getD_eq_getElem?_getD]
/-- The least value above another. -/
def upF (q : ProbD) (b a e : Int) : Int := if q.values.getD e.toNat 0 > b then (if q.values.getD e.toNat 0 < a then q.values.getD e.toNat 0 else a) else a
/-- The greatest value below another. -/
def dnF (q : ProbD) (b a e : Int) : Int := if q.values.getD e.toNat 0 < b then (if q.values.getD e.toNat 0 > a then q.values.getD e.toNat 0 else a) else a
def bef (q : ProbD) (c : ConsD) (pos : List Int) : Nat → Int
  | 0 => -1
  | i + 1 => (symsI (setAt c pos i)).foldl (upF q (bef q c pos i)) 100
/-- From the end: after the last m cells. -/
def aftR (q : ProbD) (c : ConsD) (pos : List Int) : Nat → Int
  | 0 => 100
  | m + 1 => (symsI (setAt c pos (c.cells.length - 1 - m))).foldl (dnF q (aftR q c pos m)) (-1)
def aft (q : ProbD) (c : ConsD) (pos : List Int) (i : Nat) : Int := aftR q c pos (c.cells.length - i)
def riseX (q : ProbD) (c : ConsD) (pos : List Int) (a s : Nat) : Bool := decide (q.values.getD s 0 ≤ bef q c pos a) || decide (q.values.getD s 0 ≥ aft q c pos (a + 1))
def backL (l : List Int) : Nat → List (Int × Int)
  | 0 => []
  | m + 1 => ((m : Int), l.getD m 0) :: backL l m
theorem back_loop {l : List Int} : ∀ (m n : Nat), m ≤ l.length → l.length ≤ LB → m + 1 ≤ n → back_m l n (.l1 ((m : Int) - 1)) = some (backL l m)
  | 0, n, _, _, hn => by
    obtain ⟨n, rfl⟩ : ∃ k, n = k + 1 := ⟨n - 1, by omega⟩
    show back_l1 n (back_m l n) l _ = _
    unfold back_l1
    rw [decide_eq_false (by omega), cond_false]; rfl
  | m + 1, n, hm, hl, hn => by
    obtain ⟨n, rfl⟩ : ∃ k, n = k + 1 := ⟨n - 1, by omega⟩
    have e : ((m + 1 : Nat) : Int) - 1 = (m : Int) := by omega
    have hb : LB ≤ 9223372036854775807 := by decide
    rw [e]
    show back_l1 n (back_m l n) l _ = _
    unfold back_l1
    rw [decide_eq_true (by omega), cond_true, if_pos ⟨by omega, by omega⟩, if_pos (R64_iff.2 ⟨by omega, by omega⟩), back_loop m n (by omega) hl (by omega), Int.toNat_natCast]
    rfl
theorem back_eq {l : List Int} {n : Nat} (hl : l.length ≤ LB) (hn : l.length + 1 ≤ n) : back n l = some (backL l l.length) := by
  have hb : LB ≤ 9223372036854775807 := by decide
  unfold back back_l0
  rw [if_pos (R64_iff.2 ⟨by omega, by omega⟩), back_loop l.length n (Nat.le_refl _) hl hn]
section
variable {c : ConsD} {k : Nat} {pos lost : List Int} {q : ProbD}
theorem rise_up {n ln i : Nat} (hlen : c.cells.length ≤ 256) (hi : i < c.cells.length) {o : List Int} (ho : o.length = c.cells.length + 1) : ∀ (l : List Int) (a : Int), (∀ e ∈ l, 0 ≤ e ∧ e < ((q.values.length : Nat) : Int)) →
    foldO (riseW_b57 n c (i : Int) q pos ln lost) l (.s0 (o.set (i + 1) a)) = some (.s0 (o.set (i + 1) (l.foldl (upF q (o.getD i 0)) a)))
  | [], _, _ => rfl
  | e :: l, a, h => by
    have t1 : ((((c.cells.length : Nat) : Int) + 1).toNat : Nat) = c.cells.length + 1 := by omega
    have t2 : (((i : Int) + 1).toNat : Nat) = i + 1 := by omega
    have e1 : riseW_b57 n c (i : Int) q pos ln lost e (.s0 (o.set (i + 1) a)) = some (.s0 (o.set (i + 1) (upF q (o.getD i 0) a e))) := by
      unfold riseW_b57 riseW_b57_l0 riseW_b57_e0
      dsimp only
      simp only [Int.toNat_natCast, t1, t2, Nat.zero_add, List.length_set, ho]
      rw [if_pos ⟨h e (.head _), by omega, by omega⟩, getD_set_ne (by omega), getD_set_self (by omega), List.set_set]
      unfold upF
      by_cases hA : q.values.getD e.toNat 0 > o.getD i 0
      · rw [decide_eq_true hA, cond_true, if_pos ⟨R64_iff.2 ⟨by omega, by omega⟩, by omega, by omega⟩, if_pos hA]
      · rw [decide_eq_false hA, cond_false, if_neg hA]
    simp only [foldO]
    rw [e1, Option.bind_some, rise_up hlen hi ho l _ fun e he => h e (.tail _ he)]
    rfl
theorem rise_dn {n ln i : Nat} {x : Int} {o4 : List Int} (hlen : c.cells.length ≤ 256) (hi : i < c.cells.length) {o : List Int} (ho : o.length = c.cells.length + 1) : ∀ (l : List Int) (a : Int), (∀ e ∈ l, 0 ≤ e ∧ e < ((q.values.length : Nat) : Int)) →
    foldO (riseW_b90_b103 n c q pos ln lost ((i : Int), x) o4) l (.s0 (o.set i a)) = some (.s0 (o.set i (l.foldl (dnF q (o.getD (i + 1) 0)) a)))
  | [], _, _ => rfl
  | e :: l, a, h => by
    have t1 : ((((c.cells.length : Nat) : Int) + 1).toNat : Nat) = c.cells.length + 1 := by omega
    have t2 : (((i : Int) + 1).toNat : Nat) = i + 1 := by omega
    have e1 : riseW_b90_b103 n c q pos ln lost ((i : Int), x) o4 e (.s0 (o.set i a)) = some (.s0 (o.set i (dnF q (o.getD (i + 1) 0) a e))) := by
      unfold riseW_b90_b103 riseW_b90_b103_l0 riseW_b90_b103_e0
      dsimp only
      simp only [Int.toNat_natCast, t1, t2, Nat.zero_add, List.length_set, ho]
      rw [if_pos ⟨h e (.head _), R64_iff.2 ⟨by omega, by omega⟩, by omega, by omega⟩, getD_set_ne (by omega), getD_set_self (by omega), List.set_set]
      unfold dnF
      by_cases hA : q.values.getD e.toNat 0 < o.getD (i + 1) 0
      · rw [decide_eq_true hA, cond_true, if_pos ⟨by omega, by omega⟩, if_pos hA]
      · rw [decide_eq_false hA, cond_false, if_neg hA]
    simp only [foldO]
    rw [e1, Option.bind_some, rise_dn hlen hi ho l _ fun e he => h e (.tail _ he)]
    rfl
theorem Sm.i63 (hk : k ≤ 16) {x : Int} (h : Sm k x) : 0 ≤ x ∧ x < 9223372036854775808 := by
  have h1 := pow_le62 (k := k) (Nat.le_trans hk (by decide))
  obtain ⟨h2, h3⟩ := h
  omega
theorem rise_back {n : Nat} {o4 : List Int} (W : Work c k pos) (V : Vals q k) : ∀ (m : Nat) (o : List Int), m ≤ c.cells.length → o.length = c.cells.length + 1 → (∀ j, m ≤ j → j ≤ c.cells.length → o.getD j 0 = aft q c pos j) →
    ∃ o', foldO (riseW_b90 n c q pos pos.length lost o4) (backL c.cells m) (.s0 o) = some (.s0 o') ∧ o'.length = c.cells.length + 1 ∧ ∀ j, j ≤ c.cells.length → o'.getD j 0 = aft q c pos j
  | 0, o, _, ho, h => ⟨o, rfl, ho, fun j hj => h j (Nat.zero_le _) hj⟩
  | m + 1, o, hm, ho, h => by
    have hc := W.cells m (by omega)
    have hsm := W.at (a := m) (by omega)
    have hlen := W.len
    have t1 : ((((c.cells.length : Nat) : Int) + 1).toNat : Nat) = c.cells.length + 1 := by omega
    have e1 : riseW_b90 n c q pos pos.length lost o4 ((m : Int), c.cells.getD m 0) (.s0 o) = some (.s0 (o.set m (aft q c pos m))) := by
      unfold riseW_b90 riseW_b90_l0 riseW_b90_e0
      dsimp only
      simp only [Int.toNat_natCast, t1, Nat.zero_add]
      rw [if_pos ⟨by omega, by omega, hc, hsm.i63 W.k⟩]
      refine (congrArg (fun z => Option.bind z _) (rise_dn hlen (by omega) ho (symsI (setAt c pos m)) (-1) fun e he => (V.sym W.k hsm e he).1)).trans ?_
      rw [Option.bind_some]
      have e2 : aft q c pos m = (symsI (setAt c pos m)).foldl (dnF q (o.getD (m + 1) 0)) (-1) := by
        rw [h (m + 1) (Nat.le_refl _) hm]
        unfold aft
        rw [show c.cells.length - m = c.cells.length - (m + 1) + 1 by omega]
        simp only [aftR]
        rw [show c.cells.length - 1 - (c.cells.length - (m + 1)) = m by omega]
      rw [e2]
    obtain ⟨o', h1, h2, h3⟩ := rise_back W V m (o.set m (aft q c pos m)) (by omega) (by rw [List.length_set]; exact ho) fun j hj hj2 => by
      by_cases e : m = j
      · subst e; exact getD_set_self (by omega)
      · rw [getD_set_ne e]; exact h j (by omega) hj2
    refine ⟨o', ?_, h2, h3⟩
    simp only [backL, foldO]
    rw [e1, Option.bind_some, h1]
theorem rise_two {n : Nat} {o4 o6 : List Int} (W : Work c k pos) (V : Vals q k) (h4 : o4.length = c.cells.length + 1) (h6 : o6.length = c.cells.length + 1) (hb : ∀ j, j ≤ c.cells.length → o4.getD j 0 = bef q c pos j) (ha : ∀ j, j ≤ c.cells.length → o6.getD j 0 = aft q c pos j) (hl : lost.length = pos.length) (hn : c.cells.length + 1 ≤ n) :
    ∃ l, riseW_m c q pos pos.length lost n (.l2 0 lost o4 o6) = some (true, l) ∧ LostBy c pos lost c.cells.length (fun a s => riseX q c pos a s = true) l := by
  have lt : ∀ i, i < c.cells.length → ((i : Nat) : Int) < ((c.cells.length : Nat) : Int) := fun i hi => by omega
  have t1 : ((((c.cells.length : Nat) : Int) + 1).toNat : Nat) = c.cells.length + 1 := by omega
  have hlen := W.len
  have T := loop0 (fun n (s : List Int) i => riseW_m c q pos pos.length lost n (.l2 i s o4 o6)) c.cells.length 1
    (fun i s => LostBy c pos lost i (fun a s => riseX q c pos a s = true) s) (fun n i s hn0 hi hI => ?_) (n := n) (s := lost) (by omega) (LostBy.zero hl)
  · obtain ⟨n3, l, hn3, _, e2, hL⟩ := T
    obtain ⟨n4, rfl⟩ : ∃ n4, n3 = n4 + 1 := ⟨n3 - 1, by omega⟩
    refine ⟨l, e2.trans ?_, hL⟩
    show riseW_l2 n4 (riseW_m c q pos pos.length lost n4) c q pos pos.length lost (c.cells.length : Int) l o4 o6 = _
    unfold riseW_l2
    rw [decide_eq_false (by omega), cond_false]
  · have hc := W.cells i hi
    have hr := W.r64 hi
    have hsm := W.at hi
    have t2 : (((i : Int) + 1).toNat : Nat) = i + 1 := by omega
    obtain ⟨l', e1, n1, f1⟩ := lose_fold (n := n) (q := q) W hi hI.1 riseW_b147T.s0 (riseW_b147 n c (i : Int) q pos pos.length o4 o6) (riseX q c pos i) fun s l hs hl => by
      have hvl := V.len
      have g1 : (0 : Int) ≤ (s : Int) ∧ (s : Int) < ((q.values.length : Nat) : Int) := by omega
      have hk := W.k
      have g2 : (0 : Int) ≤ (s : Int) ∧ (s : Int) ≤ ((IntKind.i64.bits : Nat) : Int) := ⟨by omega, by show (s : Int) ≤ 64; omega⟩
      obtain ⟨l2, e2, _, _⟩ := lose_some (lost := l) (n := n) (ss := IntKind.i64.wrap (1 * 2 ^ s)) (c := c) (q := q) hc.1 hc.2 hl
      unfold riseX riseW_b147 riseW_b147_l0 riseW_b147_e0
      dsimp only
      simp only [Int.toNat_natCast, t1, t2, Nat.zero_add, h4, h6]
      rw [if_pos ⟨g1, by omega, by omega⟩, hb i (by omega), ha (i + 1) (by omega)]
      cases hA : decide (q.values.getD s 0 ≤ bef q c pos i)
      · rw [cond_false, if_pos ⟨R64_iff.2 ⟨by omega, by omega⟩, by omega, by omega⟩, Bool.false_or]
        cases hB : decide (q.values.getD s 0 ≥ aft q c pos (i + 1))
        · rfl
        · rw [cond_true, cond_true, if_pos g2, e2]; rfl
      · rw [cond_true, Bool.true_or, cond_true, if_pos g2, e2]; rfl
    show ∃ s', riseW_l2 n (riseW_m c q pos pos.length lost n) c q pos pos.length lost (i : Int) s o4 o6 = _ ∧ _
    unfold riseW_l2
    rw [decide_eq_true (lt i hi), cond_true]
    simp only [Int.toNat_natCast]
    rw [if_pos ⟨⟨by omega, lt i hi⟩, hc, hsm.i63 W.k⟩]
    refine ⟨l', ?_, hI.step n1 f1⟩
    refine (congrArg (fun z => Option.bind z _) e1).trans ?_
    rw [Option.bind_some]
    simp only
    rw [if_pos hr.2]
theorem rise_some {n : Nat} (W : Work c k pos) (V : Vals q k) (hl : lost.length = pos.length) (hn : 2 * c.cells.length + 3 ≤ n) :
    ∃ l, riseW n c q pos pos.length lost = some (true, l) ∧ LostBy c pos lost c.cells.length (fun a s => riseX q c pos a s = true) l := by
  have lt : ∀ i, i < c.cells.length → ((i : Nat) : Int) < ((c.cells.length : Nat) : Int) := fun i hi => by omega
  have t1 : ((((c.cells.length : Nat) : Int) + 1).toNat : Nat) = c.cells.length + 1 := by omega
  have hlen := W.len
  have S := loop0 (fun n (s : List Int) i => riseW_m c q pos pos.length lost n (.l1 i s)) c.cells.length (c.cells.length + 3)
    (fun i s => s.length = c.cells.length + 1 ∧ ∀ j, j ≤ i → s.getD j 0 = bef q c pos j) (fun n i s _ hi hI => ?_) (n := n) (s := (List.replicate (c.cells.length + 1) (0 : Int)).set 0 (-1)) (by omega) ⟨by simp, fun j hj => ?_⟩
  · obtain ⟨n1, o4, hn1, _, e1, h4, hb⟩ := S
    obtain ⟨n2, rfl⟩ : ∃ n2, n1 = n2 + 1 := ⟨n1 - 1, by omega⟩
    have e0 : riseW n c q pos pos.length lost = riseW_m c q pos pos.length lost n (.l1 0 ((List.replicate (c.cells.length + 1) (0 : Int)).set 0 (-1))) := by
      unfold riseW riseW_l0
      simp only [t1, Nat.zero_add, List.length_replicate]
      rw [if_pos ⟨R64_iff.2 ⟨by omega, by omega⟩, ⟨trivial, by omega, by omega⟩, ⟨by omega, by omega⟩, by omega, ⟨by omega, by omega⟩, by omega⟩]
    have e2 : riseW n c q pos pos.length lost = riseW_l1 n2 (riseW_m c q pos pos.length lost n2) c q pos pos.length lost (c.cells.length : Int) o4 := e0.trans e1
    unfold riseW_l1 at e2
    rw [decide_eq_false (by omega), cond_false, back_eq (Nat.le_trans hlen (by decide)) (by omega), Option.bind_some] at e2
    simp only [t1, Nat.zero_add] at e2
    obtain ⟨o6, e3, h6, ha⟩ := rise_back (lost := lost) (n := n2) (o4 := o4) W V c.cells.length ((List.replicate (c.cells.length + 1) (0 : Int)).set c.cells.length 100) (Nat.le_refl _) (by simp) fun j hj hj2 => by
      obtain rfl : j = c.cells.length := by omega
      rw [getD_set_self (by simp)]
      unfold aft
      rw [Nat.sub_self]; rfl
    rw [e3, Option.bind_some] at e2
    obtain ⟨l, e4, hL⟩ := rise_two (n := n2) W V h4 h6 (fun j hj => hb j hj) ha hl (by omega)
    exact ⟨l, e2.trans e4, hL⟩
  · obtain ⟨h4, hb⟩ := hI
    have hc := W.cells i hi
    have hr := W.r64 hi
    have hsm := W.at hi
    have t2 : (((i : Int) + 1).toNat : Nat) = i + 1 := by omega
    show ∃ s', riseW_l1 n (riseW_m c q pos pos.length lost n) c q pos pos.length lost (i : Int) s = _ ∧ _
    unfold riseW_l1
    rw [decide_eq_true (lt i hi), cond_true]
    simp only [Int.toNat_natCast, t1, t2, Nat.zero_add]
    rw [if_pos ⟨⟨by omega, lt i hi⟩, hr.2, by omega, by omega, hc, hsm.i63 W.k⟩]
    refine ⟨s.set (i + 1) (bef q c pos (i + 1)), ?_, by rw [List.length_set]; exact h4, fun j hj => ?_⟩
    · refine (congrArg (fun z => Option.bind z _) (rise_up hlen hi h4 (symsI (setAt c pos i)) 100 fun e he => (V.sym W.k hsm e he).1)).trans ?_
      rw [Option.bind_some]
      simp only
      rw [if_pos hr.2, hb i (Nat.le_refl _)]
      rfl
    · by_cases e : i + 1 = j
      · subst e; exact getD_set_self (by omega)
      · rw [getD_set_ne e]; exact hb j (by omega)
  · obtain rfl : j = 0 := by omega
    rw [getD_set_self (by simp)]; rfl
end
end Go.Proofs.YtekkngkphejfcaaDoor
