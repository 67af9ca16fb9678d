/- Functions read off the code: pruning, the rest. -/
import Derived.Test.YtekkngkphejfcaaDoorHe
namespace Go.Proofs.YtekkngkphejfcaaDoor
open Go.RowKit

def a_apartF_1 : Prop := SOk (regF Tryd.f65 1) [] [0, 1, 2, 3, 4, 5, 6, 7, 8, 9, 10, 11, 12, 13, 14, 15, 16, 17] []
theorem s_apartF_1 : a_apartF_1 := by unfold a_apartF_1 SOk; kernel_rfl
def sch_apartF : Sch := fun i => match i with
  | 1 => .ord [] [0, 1, 2, 3, 4, 5, 6, 7, 8, 9, 10, 11, 12, 13, 14, 15, 16, 17] []
  | _ => .no
def apartF_l0 (n : Nat) (s_ t_ : Int) (c : ConsD) (q : ProbD) (pos : List Int) (ln : Nat) (lost : List Int) : Option (Bool × (List Int)) :=
  if ((0 : Int) ≤ s_ ∧ s_ < ((q.values.length : Nat) : Int)) ∧ ((0 : Int) ≤ t_ ∧ t_ < ((q.values.length : Nat) : Int)) ∧ R64 ((q.values.getD ((s_).toNat) 0) - (q.values.getD ((t_).toNat) 0)) ∧ R64 (0 - ((q.values.getD ((s_).toNat) 0) - (q.values.getD ((t_).toNat) 0))) then
   some ((decide ((if (0 - ((q.values.getD ((s_).toNat) 0) - (q.values.getD ((t_).toNat) 0))) > ((q.values.getD ((s_).toNat) 0) - (q.values.getD ((t_).toNat) 0)) then (0 - ((q.values.getD ((s_).toNat) 0) - (q.values.getD ((t_).toNat) 0))) else ((q.values.getD ((s_).toNat) 0) - (q.values.getD ((t_).toNat) 0))) ≥ c.lo)), lost)
  else none
def apartF (n : Nat) (s_ t_ : Int) (c : ConsD) (q : ProbD) (pos : List Int) (ln : Nat) (lost : List Int) : Option (Bool × (List Int)) := apartF_l0 n s_ t_ c q pos ln lost
set_option maxRecDepth 100000 in
set_option maxHeartbeats 4000000 in
theorem apartF_ok {n : Nat} (s_ t_ : Int) (c : ConsD) (q : ProbD) (pos : List Int) (ln : Nat) (lost : List Int) {r : Bool × (List Int)} (h : apartF n s_ t_ c q pos ln lost = some r) : ES Tryd.prog GG 65 [.int .i64 s_, .int .i64 t_, .ref 0 0] [some (.cells [.ref 1 0]), some (.cells (consC c ++ probC q ++ [.ints pos, .msl 2 1 0 ln])), some (.ints lost)] (.bool r.1) [some (.cells [.ref 1 0]), some (.cells (consC c ++ probC q ++ [.ints pos, .msl 2 1 0 ln])), some (.ints r.2)] false := by
  have hX : HX Fence.wide Tryd.prog := ⟨FOk.wide, by kernel_rfl⟩
  refine ES.of_trk Tryd.func65 (by kernel_rfl) (by kernel_rfl) (noIterB (by kernel_rfl)) (fun e => by cases e) fun B N => ?_
  unfold apartF at h
  unfold apartF_l0 at h
  obtain ⟨⟨g0, g1, g2, g3⟩, h⟩ := guardSome h
  cases h
  exact TrK.e hX sch_apartF 11 [5] [0, 1, 2] [] (.g s_apartF_1 <| .g g0 <| .g g1 <| .o 23 (wr64 g2) <| .o 26 (wr64 g3) <| .e) [] .e (by kernel_rfl)


def a_notF_1 : Prop := SOk (regF Tryd.f66 1) [] [0, 1, 2, 3, 4, 5] []
theorem s_notF_1 : a_notF_1 := by unfold a_notF_1 SOk; kernel_rfl
def sch_notF : Sch := fun i => match i with
  | 1 => .ord [] [0, 1, 2, 3, 4, 5] []
  | _ => .no
def notF_l0 (n : Nat) (s_ t_ : Int) (c : ConsD) (q : ProbD) (pos : List Int) (ln : Nat) (lost : List Int) : Option (Bool × (List Int)) :=
  if ((0 : Int) ≤ s_ ∧ s_ ≤ ((IntKind.i64.bits : Nat) : Int)) ∧ ((0 : Int) ≤ t_ ∧ t_ ≤ ((IntKind.i64.bits : Nat) : Int)) then
   bif ((bits .and .i64 (IntKind.i64.wrap (1 * 2 ^ (s_).toNat)) c.set) == 0) then
    bif ((bits .and .i64 (IntKind.i64.wrap (1 * 2 ^ (t_).toNat)) c.set) == 0) then
     some (true, lost)
    else
     some (((bits .and .i64 (IntKind.i64.wrap (1 * 2 ^ (s_).toNat)) c.other) == 0), lost)
   else
    bif ((bits .and .i64 (IntKind.i64.wrap (1 * 2 ^ (t_).toNat)) c.other) == 0) then
     bif ((bits .and .i64 (IntKind.i64.wrap (1 * 2 ^ (t_).toNat)) c.set) == 0) then
      some (true, lost)
     else
      some (((bits .and .i64 (IntKind.i64.wrap (1 * 2 ^ (s_).toNat)) c.other) == 0), lost)
    else
     some (false, lost)
  else none
def notF (n : Nat) (s_ t_ : Int) (c : ConsD) (q : ProbD) (pos : List Int) (ln : Nat) (lost : List Int) : Option (Bool × (List Int)) := notF_l0 n s_ t_ c q pos ln lost
set_option maxRecDepth 100000 in
set_option maxHeartbeats 4000000 in
theorem notF_ok {n : Nat} (s_ t_ : Int) (c : ConsD) (q : ProbD) (pos : List Int) (ln : Nat) (lost : List Int) {r : Bool × (List Int)} (h : notF n s_ t_ c q pos ln lost = some r) : ES Tryd.prog GG 66 [.int .i64 s_, .int .i64 t_, .ref 0 0] [some (.cells [.ref 1 0]), some (.cells (consC c ++ probC q ++ [.ints pos, .msl 2 1 0 ln])), some (.ints lost)] (.bool r.1) [some (.cells [.ref 1 0]), some (.cells (consC c ++ probC q ++ [.ints pos, .msl 2 1 0 ln])), some (.ints r.2)] false := by
  have hX : HX Fence.wide Tryd.prog := ⟨FOk.wide, by kernel_rfl⟩
  refine ES.of_trk Tryd.func66 (by kernel_rfl) (by kernel_rfl) (noIterB (by kernel_rfl)) (fun e => by cases e) fun B N => ?_
  unfold notF at h
  unfold notF_l0 at h
  obtain ⟨⟨g0, g1⟩, h⟩ := guardSome h
  rcases bifSome h with ⟨c0, h⟩ | ⟨c0, h⟩
  · rcases bifSome h with ⟨c1, h⟩ | ⟨c1, h⟩
    · cases h
      exact TrK.e hX sch_notF 11 [5] [0, 1, 2] [] (.g s_notF_1 <| .g g0 <| .g g1 <| .o 19 (DLe.bool c0) <| .o 38 (DLe.bool c1) <| .e) [] .e (by kernel_rfl)
    · cases h
      exact TrK.e hX sch_notF 11 [5] [0, 1, 2] [] (.g s_notF_1 <| .g g0 <| .g g1 <| .o 19 (DLe.bool c0) <| .o 38 (DLe.bool c1) <| .e) [] .e (by kernel_rfl)
  · rcases bifSome h with ⟨c1, h⟩ | ⟨c1, h⟩
    · rcases bifSome h with ⟨c2, h⟩ | ⟨c2, h⟩
      · cases h
        exact TrK.e hX sch_notF 11 [5] [0, 1, 2] [] (.g s_notF_1 <| .g g0 <| .g g1 <| .o 19 (DLe.bool c0) <| .o 28 (DLe.bool c1) <| .o 38 (DLe.bool c2) <| .e) [] .e (by kernel_rfl)
      · cases h
        exact TrK.e hX sch_notF 11 [5] [0, 1, 2] [] (.g s_notF_1 <| .g g0 <| .g g1 <| .o 19 (DLe.bool c0) <| .o 28 (DLe.bool c1) <| .o 38 (DLe.bool c2) <| .e) [] .e (by kernel_rfl)
    · cases h
      exact TrK.e hX sch_notF 11 [5] [0, 1, 2] [] (.g s_notF_1 <| .g g0 <| .g g1 <| .o 19 (DLe.bool c0) <| .o 28 (DLe.bool c1) <| .e) [] .e (by kernel_rfl)


def a_pairA_1 : Prop := SOk (regF Tryd.f64 1) [] [0, 1, 2, 3, 4, 5, 6, 7, 8, 9, 10, 11, 12, 13, 14, 15] []
theorem s_pairA_1 : a_pairA_1 := by unfold a_pairA_1 SOk; kernel_rfl
def a_pairA_2 : Prop := SOk (regF Tryd.f64 2) [([0, 1, 2, 3, 4, 5, 6, 7, 8, 9, 10, 11, 12, 13], 14)] [15] [16]
theorem s_pairA_2 : a_pairA_2 := by unfold a_pairA_2 SOk; kernel_rfl
def a_pairA_9 : Prop := SOk (regF Tryd.f64 9) [] [0, 1, 2, 3] [4]
theorem s_pairA_9 : a_pairA_9 := by unfold a_pairA_9 SOk; kernel_rfl
def a_pairA_10 : Prop := SOk (regF Tryd.f64 10) [] [0, 1, 2, 3] [4]
theorem s_pairA_10 : a_pairA_10 := by unfold a_pairA_10 SOk; kernel_rfl
def sch_pairA : Sch := fun i => match i with
  | 1 => .ord [] [0, 1, 2, 3, 4, 5, 6, 7, 8, 9, 10, 11, 12, 13, 14, 15] []
  | 2 => .ord [([0, 1, 2, 3, 4, 5, 6, 7, 8, 9, 10, 11, 12, 13], 14)] [15] [16]
  | 9 => .ord [] [0, 1, 2, 3] [4]
  | 10 => .ord [] [0, 1, 2, 3] [4]
  | _ => .no
def hp_pairA_0 (c : ConsD) (q : ProbD) (pos : List Int) (ln : Nat) (lost : List Int) : DH := [some (.cells [.ref 1 0]), some (.cells (consC c ++ probC q ++ [.ints pos, .msl 2 1 0 ln])), some (.ints lost), some (.cells [.fn 65 1 (L1 [.ref 0 0])]), some (.cells [.int .i64 (pos.getD ((c.cells.getD 1 0).toNat) 0)]), some (.cells [.int .i64 0]), some (.cells [.int .i64 0])]
def hp_pairA_1 (c : ConsD) (q : ProbD) (pos : List Int) (ln : Nat) (lost : List Int) : DH := [some (.cells [.ref 1 0]), some (.cells (consC c ++ probC q ++ [.ints pos, .msl 2 1 0 ln])), some (.ints lost), some (.cells [.fn 65 1 (L1 [.ref 0 0])]), some (.cells [.int .i64 (pos.getD ((c.cells.getD 1 0).toNat) 0)]), some (.cells [.int .i64 0]), some (.cells [.int .i64 0]), some (.iter ((symsI (pos.getD ((c.cells.getD 0 0).toNat) 0)).map encI))]
def hp_pairA_2 (c : ConsD) (q : ProbD) (pos : List Int) (ln : Nat) (y1_0_0 : List Int) (y1_0_1 y1_0_2 : Int) : DH := [some (.cells [.ref 1 0]), some (.cells (consC c ++ probC q ++ [.ints pos, .msl 2 1 0 ln])), some (.ints y1_0_0), some (.cells [.fn 65 1 (L1 [.ref 0 0])]), some (.cells [.int .i64 (pos.getD ((c.cells.getD 1 0).toNat) 0)]), some (.cells [.int .i64 y1_0_1]), some (.cells [.int .i64 y1_0_2]), none]
def hp_pairA_3 (c : ConsD) (q : ProbD) (pos : List Int) (ln : Nat) (y2 : (List Int)) (y1_0_1 y1_0_2 : Int) : DH := [some (.cells [.ref 1 0]), some (.cells (consC c ++ probC q ++ [.ints pos, .msl 2 1 0 ln])), some (.ints y2), some (.cells [.fn 65 1 (L1 [.ref 0 0])]), some (.cells [.int .i64 (pos.getD ((c.cells.getD 1 0).toNat) 0)]), some (.cells [.int .i64 y1_0_1]), some (.cells [.int .i64 y1_0_2]), none]
def hp_pairA_4 (c : ConsD) (q : ProbD) (pos : List Int) (ln : Nat) (r42s0_2 : List Int) (r42s0_5_0 r42s0_6_0 e42 : Int) : DH := [some (.cells [.ref 1 0]), some (.cells (consC c ++ probC q ++ [.ints pos, .msl 2 1 0 ln])), some (.ints r42s0_2), some (.cells [.fn 65 1 (L1 [.ref 0 0])]), some (.cells [.int .i64 (pos.getD ((c.cells.getD 1 0).toNat) 0)]), some (.cells [.int .i64 r42s0_5_0]), some (.cells [.int .i64 r42s0_6_0]), none, some (.cells [.int .i64 e42])]
def hp_pairA_5 (c : ConsD) (q : ProbD) (pos : List Int) (ln : Nat) (r42s0_2 : List Int) (r42s0_5_0 r42s0_6_0 e42 : Int) : DH := [some (.cells [.ref 1 0]), some (.cells (consC c ++ probC q ++ [.ints pos, .msl 2 1 0 ln])), some (.ints r42s0_2), some (.cells [.fn 65 1 (L1 [.ref 0 0])]), some (.cells [.int .i64 (pos.getD ((c.cells.getD 1 0).toNat) 0)]), some (.cells [.int .i64 r42s0_5_0]), some (.cells [.int .i64 r42s0_6_0]), none, some (.cells [.int .i64 e42]), some (.iter ((symsI (pos.getD ((c.cells.getD 1 0).toNat) 0)).map encI))]
def hp_pairA_6 (c : ConsD) (q : ProbD) (pos : List Int) (ln : Nat) (r45s0_2 : List Int) (r45s0_5_0 r45s0_6_0 e42 : Int) : DH := [some (.cells [.ref 1 0]), some (.cells (consC c ++ probC q ++ [.ints pos, .msl 2 1 0 ln])), some (.ints r45s0_2), some (.cells [.fn 65 1 (L1 [.ref 0 0])]), some (.cells [.int .i64 (pos.getD ((c.cells.getD 1 0).toNat) 0)]), some (.cells [.int .i64 r45s0_5_0]), some (.cells [.int .i64 r45s0_6_0]), none, some (.cells [.int .i64 e42]), none]
inductive pairA_b42_b45T where
  | s0 (r45s0_2 : List Int) (r45s0_5_0 r45s0_6_0 : Int)
def pairA_b42_b45_H (c : ConsD) (q : ProbD) (pos : List Int) (ln : Nat) (e42 : Int) : pairA_b42_b45T → DH
  | .s0 r45s0_2 r45s0_5_0 r45s0_6_0 => [some (.cells [.ref 1 0]), some (.cells (consC c ++ probC q ++ [.ints pos, .msl 2 1 0 ln])), some (.ints r45s0_2), some (.cells [.fn 65 1 (L1 [.ref 0 0])]), some (.cells [.int .i64 (pos.getD ((c.cells.getD 1 0).toNat) 0)]), some (.cells [.int .i64 r45s0_5_0]), some (.cells [.int .i64 r45s0_6_0]), none, some (.cells [.int .i64 e42]), none]
def pairA_b42_b45_e0 (n : Nat) (c : ConsD) (q : ProbD) (pos : List Int) (ln : Nat) (e42 e45 : Int) (r45s0_2 : List Int) (r45s0_5_0 r45s0_6_0 : Int) : Option pairA_b42_b45T :=
  (apartF n e42 e45 c q pos ln r45s0_2).bind fun b45_y1 =>
   bif b45_y1.1 then
    if ((0 : Int) ≤ e42 ∧ e42 ≤ ((IntKind.i64.bits : Nat) : Int)) ∧ ((0 : Int) ≤ e45 ∧ e45 ≤ ((IntKind.i64.bits : Nat) : Int)) then
     some (.s0 b45_y1.2 (bits .or .i64 r45s0_5_0 (IntKind.i64.wrap (1 * 2 ^ (e42).toNat))) (bits .or .i64 r45s0_6_0 (IntKind.i64.wrap (1 * 2 ^ (e45).toNat))))
    else none
   else
    some (.s0 b45_y1.2 r45s0_5_0 r45s0_6_0)
def pairA_b42_b45_l0 (n : Nat) (c : ConsD) (q : ProbD) (pos : List Int) (ln : Nat) (e42 e45 : Int) : pairA_b42_b45T → Option pairA_b42_b45T
  | .s0 r45s0_2 r45s0_5_0 r45s0_6_0 => pairA_b42_b45_e0 n c q pos ln e42 e45 r45s0_2 r45s0_5_0 r45s0_6_0
def pairA_b42_b45 (n : Nat) (c : ConsD) (q : ProbD) (pos : List Int) (ln : Nat) (e42 e45 : Int) (s : pairA_b42_b45T) : Option pairA_b42_b45T := pairA_b42_b45_l0 n c q pos ln e42 e45 s
set_option maxRecDepth 100000 in
set_option maxHeartbeats 4000000 in
theorem pairA_b42_b45_ok (l B : Nat) (N : Yard Tryd.prog GG 10) (n : Nat) (c : ConsD) (q : ProbD) (pos : List Int) (ln : Nat) (e42 e45 : Int) (s : pairA_b42_b45T) (r : pairA_b42_b45T) (h : pairA_b42_b45 n c q pos ln e42 e45 s = some r) : TrA Tryd.prog GG (Fence.wide.inRound l) (some B) 10 N (RndQ 10 [] 0 (pairA_b42_b45_H c q pos ln e42 r)) (rgA Tryd.f64 45) (rgB Tryd.f64 45) ⟨frm 69 [(3, .ref 3 0), (9, .ref 5 0), (10, .ref 6 0), (11, .ref 8 0), (45, .it 9), (46, .int .i64 e45)], pairA_b42_b45_H c q pos ln e42 s⟩ := by
  have hX : HX (Fence.wide.inRound l) Tryd.prog := ⟨FOk.round l, by kernel_rfl⟩
  unfold pairA_b42_b45 at h
  cases s with
  | s0 r45s0_2 r45s0_5_0 r45s0_6_0 =>
    have h : pairA_b42_b45_e0 n c q pos ln e42 e45 r45s0_2 r45s0_5_0 r45s0_6_0 = some r := h
    unfold pairA_b42_b45_e0 at h
    refine TrA.g hX sch_pairA 6 [3, 4, 9, 10, 11, 12] [0, 1, 2, 3, 4, 5, 6, 7, 8, 9] .e (frm 69 [(3, .ref 3 0), (9, .ref 5 0), (10, .ref 6 0), (11, .ref 8 0), (12, .int .i64 e45)]) (hp_pairA_6 c q pos ln r45s0_2 r45s0_5_0 r45s0_6_0 e42) (by kernel_rfl) ?_
    intro N
    obtain ⟨b45_y1, hb45_y1, h⟩ := bindSome h
    rcases bifSome h with ⟨b45_c0, h⟩ | ⟨b45_c0, h⟩
    · obtain ⟨⟨b45_g0, b45_g1⟩, h⟩ := guardSome h
      cases h
      exact TrK.r hX sch_pairA 13 [0, 1, 2, 3, 4, 5, 6, 7, 8, 9] [] (.c (ES.emC (apartF_ok e42 e45 c q pos ln r45s0_2 hb45_y1) [0, 1, 2] (hp_pairA_6 c q pos ln r45s0_2 r45s0_5_0 r45s0_6_0 e42) (by kernel_rfl) (by kernel_rfl)) <| .o 50 (DLe.bool b45_c0) <| .g s_pairA_9 <| .g b45_g0 <| .g trivial <| .g s_pairA_10 <| .g b45_g1 <| .g trivial <| .e) rfl (by kernel_rfl)
    · cases h
      exact TrK.r hX sch_pairA 11 [0, 1, 2, 3, 4, 5, 6, 7, 8, 9] [] (.c (ES.emC (apartF_ok e42 e45 c q pos ln r45s0_2 hb45_y1) [0, 1, 2] (hp_pairA_6 c q pos ln r45s0_2 r45s0_5_0 r45s0_6_0 e42) (by kernel_rfl) (by kernel_rfl)) <| .o 50 (DLe.bool b45_c0) <| .e) rfl (by kernel_rfl)


inductive pairA_b42T where
  | s0 (r42s0_2 : List Int) (r42s0_5_0 r42s0_6_0 : Int)
def pairA_b42_H (c : ConsD) (q : ProbD) (pos : List Int) (ln : Nat) : pairA_b42T → DH
  | .s0 r42s0_2 r42s0_5_0 r42s0_6_0 => [some (.cells [.ref 1 0]), some (.cells (consC c ++ probC q ++ [.ints pos, .msl 2 1 0 ln])), some (.ints r42s0_2), some (.cells [.fn 65 1 (L1 [.ref 0 0])]), some (.cells [.int .i64 (pos.getD ((c.cells.getD 1 0).toNat) 0)]), some (.cells [.int .i64 r42s0_5_0]), some (.cells [.int .i64 r42s0_6_0]), none]
def pairA_b42_e0 (n : Nat) (c : ConsD) (q : ProbD) (pos : List Int) (ln : Nat) (e42 : Int) (r42s0_2 : List Int) (r42s0_5_0 r42s0_6_0 : Int) : Option pairA_b42T :=
  if (0 : Int) ≤ (pos.getD ((c.cells.getD 1 0).toNat) 0) ∧ (pos.getD ((c.cells.getD 1 0).toNat) 0) < 9223372036854775808 then
   (foldO (pairA_b42_b45 n c q pos ln e42) (symsI (pos.getD ((c.cells.getD 1 0).toNat) 0)) (.s0 r42s0_2 r42s0_5_0 r42s0_6_0)).bind fun b42_y1 =>
    match b42_y1 with
    | .s0 b42_y1_0_0 b42_y1_0_1 b42_y1_0_2 =>
     some (.s0 b42_y1_0_0 b42_y1_0_1 b42_y1_0_2)
  else none
def pairA_b42_l0 (n : Nat) (c : ConsD) (q : ProbD) (pos : List Int) (ln : Nat) (e42 : Int) : pairA_b42T → Option pairA_b42T
  | .s0 r42s0_2 r42s0_5_0 r42s0_6_0 => pairA_b42_e0 n c q pos ln e42 r42s0_2 r42s0_5_0 r42s0_6_0
def pairA_b42 (n : Nat) (c : ConsD) (q : ProbD) (pos : List Int) (ln : Nat) (e42 : Int) (s : pairA_b42T) : Option pairA_b42T := pairA_b42_l0 n c q pos ln e42 s
set_option maxRecDepth 100000 in
set_option maxHeartbeats 4000000 in
theorem pairA_b42_ok (l B : Nat) (N : Yard Tryd.prog GG 8) (n : Nat) (c : ConsD) (q : ProbD) (pos : List Int) (ln : Nat) (e42 : Int) (s : pairA_b42T) (r : pairA_b42T) (h : pairA_b42 n c q pos ln e42 s = some r) : TrA Tryd.prog GG (Fence.wide.inRound l) (some B) 8 N (RndQ 8 [] 0 (pairA_b42_H c q pos ln r)) (rgA Tryd.f64 42) (rgB Tryd.f64 42) ⟨frm 69 [(0, .ref 1 0), (3, .ref 3 0), (5, .int .i64 (c.cells.getD 0 0)), (6, .int .i64 (c.cells.getD 1 0)), (8, .ref 4 0), (9, .ref 5 0), (10, .ref 6 0), (42, .it 7), (43, .int .i64 e42)], pairA_b42_H c q pos ln s⟩ := by
  have hX : HX (Fence.wide.inRound l) Tryd.prog := ⟨FOk.round l, by kernel_rfl⟩
  unfold pairA_b42 at h
  cases s with
  | s0 r42s0_2 r42s0_5_0 r42s0_6_0 =>
    have h : pairA_b42_e0 n c q pos ln e42 r42s0_2 r42s0_5_0 r42s0_6_0 = some r := h
    unfold pairA_b42_e0 at h
    refine TrA.g hX sch_pairA 6 [3, 4, 8, 9, 10, 11, 46] [0, 1, 2, 3, 4, 5, 6, 7, 8] (.g trivial <| .e) (frm 69 [(3, .ref 3 0), (8, .ref 4 0), (9, .ref 5 0), (10, .ref 6 0), (11, .ref 8 0)]) (hp_pairA_4 c q pos ln r42s0_2 r42s0_5_0 r42s0_6_0 e42) (by kernel_rfl) ?_
    intro N
    obtain ⟨b42_g0, h⟩ := guardSome h
    obtain ⟨b42_y1, hb42_y1, h⟩ := bindSome h
    refine TrK.gS hX sch_pairA 9 [3, 4, 9, 10, 11, 45, 46] [0, 1, 2, 3, 4, 5, 6, 7, 8, 9] [] (.c (symbols_it b42_g0 (hp_pairA_4 c q pos ln r42s0_2 r42s0_5_0 r42s0_6_0 e42)) <| .e) [] .e (atT (rgB Tryd.f64 42) 45 []) (frm 69 [(3, .ref 3 0), (9, .ref 5 0), (10, .ref 6 0), (11, .ref 8 0), (45, .it 9)]) (hp_pairA_5 c q pos ln r42s0_2 r42s0_5_0 r42s0_6_0 e42) (by kernel_rfl) (by kernel_rfl) ?_
    refine TrK.rg0 (.inr ⟨l, rfl⟩) 9 45 #[46] encI 10 hb42_y1 (fun l B N e s r hs => pairA_b42_b45_ok l B N n c q pos ln e42 e s r hs) (by kernel_rfl) (by kernel_rfl) (by kernel_rfl) (fun _ => rfl) (by kernel_rfl) (by kernel_rfl) (by kernel_rfl) (by kernel_rfl) ?_
    cases b42_y1 with
    | s0 b42_y1_0_0 b42_y1_0_1 b42_y1_0_2 =>
      dsimp only at h
      cases h
      exact TrK.r hX sch_pairA 7 [0, 1, 2, 3, 4, 5, 6, 7] [] .e rfl (by kernel_rfl)


def pairA_l0 (n : Nat) (c : ConsD) (q : ProbD) (pos : List Int) (ln : Nat) (lost : List Int) : Option (Bool × (List Int)) :=
  if ((0 : Int) ≤ 0 ∧ 0 < ((c.cells.length : Nat) : Int)) ∧ ((0 : Int) ≤ 1 ∧ 1 < ((c.cells.length : Nat) : Int)) ∧ ((0 : Int) ≤ (c.cells.getD 0 0) ∧ (c.cells.getD 0 0) < ((pos.length : Nat) : Int)) ∧ ((0 : Int) ≤ (c.cells.getD 1 0) ∧ (c.cells.getD 1 0) < ((pos.length : Nat) : Int)) ∧ ((0 : Int) ≤ (pos.getD ((c.cells.getD 0 0).toNat) 0) ∧ (pos.getD ((c.cells.getD 0 0).toNat) 0) < 9223372036854775808) then
   (foldO (pairA_b42 n c q pos ln) (symsI (pos.getD ((c.cells.getD 0 0).toNat) 0)) (.s0 lost 0 0)).bind fun y1 =>
    match y1 with
    | .s0 y1_0_0 y1_0_1 y1_0_2 =>
     (loseW n (c.cells.getD 0 0) (bits .xor .i64 (-1) y1_0_1) c q pos ln y1_0_0).bind fun y2 =>
      (loseW n (c.cells.getD 1 0) (bits .xor .i64 (-1) y1_0_2) c q pos ln y2).bind fun y3 =>
       some (true, y3)
  else none
def pairA (n : Nat) (c : ConsD) (q : ProbD) (pos : List Int) (ln : Nat) (lost : List Int) : Option (Bool × (List Int)) := pairA_l0 n c q pos ln lost
set_option maxRecDepth 100000 in
set_option maxHeartbeats 4000000 in
theorem pairA_ok {n : Nat} (c : ConsD) (q : ProbD) (pos : List Int) (ln : Nat) (lost : List Int) {r : Bool × (List Int)} (h : pairA n c q pos ln lost = some r) : ES Tryd.prog GG 64 [.ref 1 0, .fn 65 1 (L1 [.ref 0 0])] [some (.cells [.ref 1 0]), some (.cells (consC c ++ probC q ++ [.ints pos, .msl 2 1 0 ln])), some (.ints lost)] (.bool r.1) [some (.cells [.ref 1 0]), some (.cells (consC c ++ probC q ++ [.ints pos, .msl 2 1 0 ln])), some (.ints r.2)] false := by
  have hX : HX Fence.wide Tryd.prog := ⟨FOk.wide, by kernel_rfl⟩
  refine ES.of_trk Tryd.func64 (by kernel_rfl) (by kernel_rfl) (noIterB (by kernel_rfl)) (fun e => by cases e) fun B N => ?_
  unfold pairA at h
  unfold pairA_l0 at h
  obtain ⟨⟨g0, g1, g2, g3, g4⟩, h⟩ := guardSome h
  obtain ⟨y1, hy1, h⟩ := bindSome h
  refine TrK.gS hX sch_pairA 17 [0, 3, 5, 6, 8, 9, 10, 42, 43, 46] [0, 1, 2, 3, 4, 5, 6, 7] [] (.g s_pairA_1 <| .g g0 <| .g g1 <| .g s_pairA_2 <| .g g2 <| .g g3 <| .g trivial <| .c (symbols_it g4 (hp_pairA_0 c q pos ln lost)) <| .e) [] .e (atT (bodyC Tryd.f64) 42 []) (frm 69 [(0, .ref 1 0), (3, .ref 3 0), (5, .int .i64 (c.cells.getD 0 0)), (6, .int .i64 (c.cells.getD 1 0)), (8, .ref 4 0), (9, .ref 5 0), (10, .ref 6 0), (42, .it 7)]) (hp_pairA_1 c q pos ln lost) (by kernel_rfl) (by kernel_rfl) ?_
  refine TrK.rg0 (.inl rfl) 7 42 #[43] encI 8 hy1 (fun l B N e s r hs => pairA_b42_ok l B N n c q pos ln e s r hs) (by kernel_rfl) (by kernel_rfl) (by kernel_rfl) (fun _ => rfl) (by kernel_rfl) (by kernel_rfl) (by kernel_rfl) (by kernel_rfl) ?_
  cases y1 with
  | s0 y1_0_0 y1_0_1 y1_0_2 =>
    dsimp only at h
    obtain ⟨y2, hy2, h⟩ := bindSome h
    obtain ⟨y3, hy3, h⟩ := bindSome h
    cases h
    exact TrK.e hX sch_pairA 12 [4] [0, 1, 2] [] (.c (ES.emC (loseW_ok (c.cells.getD 0 0) (bits .xor .i64 (-1) y1_0_1) c q pos ln y1_0_0 hy2) [1, 2] (hp_pairA_2 c q pos ln y1_0_0 y1_0_1 y1_0_2) (by kernel_rfl) (by kernel_rfl)) <| .c (ES.emC (loseW_ok (c.cells.getD 1 0) (bits .xor .i64 (-1) y1_0_2) c q pos ln y2 hy3) [1, 2] (hp_pairA_3 c q pos ln y2 y1_0_1 y1_0_2) (by kernel_rfl) (by kernel_rfl)) <| .e) [] .e (by kernel_rfl)


def a_pairN_1 : Prop := SOk (regF Tryd.f64 1) [] [0, 1, 2, 3, 4, 5, 6, 7, 8, 9, 10, 11, 12, 13, 14, 15] []
theorem s_pairN_1 : a_pairN_1 := by unfold a_pairN_1 SOk; kernel_rfl
def a_pairN_2 : Prop := SOk (regF Tryd.f64 2) [([0, 1, 2, 3, 4, 5, 6, 7, 8, 9, 10, 11, 12, 13], 14)] [15] [16]
theorem s_pairN_2 : a_pairN_2 := by unfold a_pairN_2 SOk; kernel_rfl
def a_pairN_9 : Prop := SOk (regF Tryd.f64 9) [] [0, 1, 2, 3] [4]
theorem s_pairN_9 : a_pairN_9 := by unfold a_pairN_9 SOk; kernel_rfl
def a_pairN_10 : Prop := SOk (regF Tryd.f64 10) [] [0, 1, 2, 3] [4]
theorem s_pairN_10 : a_pairN_10 := by unfold a_pairN_10 SOk; kernel_rfl
def sch_pairN : Sch := fun i => match i with
  | 1 => .ord [] [0, 1, 2, 3, 4, 5, 6, 7, 8, 9, 10, 11, 12, 13, 14, 15] []
  | 2 => .ord [([0, 1, 2, 3, 4, 5, 6, 7, 8, 9, 10, 11, 12, 13], 14)] [15] [16]
  | 9 => .ord [] [0, 1, 2, 3] [4]
  | 10 => .ord [] [0, 1, 2, 3] [4]
  | _ => .no
def hp_pairN_0 (c : ConsD) (q : ProbD) (pos : List Int) (ln : Nat) (lost : List Int) : DH := [some (.cells [.ref 1 0]), some (.cells (consC c ++ probC q ++ [.ints pos, .msl 2 1 0 ln])), some (.ints lost), some (.cells [.fn 66 1 (L1 [.ref 0 0])]), some (.cells [.int .i64 (pos.getD ((c.cells.getD 1 0).toNat) 0)]), some (.cells [.int .i64 0]), some (.cells [.int .i64 0])]
def hp_pairN_1 (c : ConsD) (q : ProbD) (pos : List Int) (ln : Nat) (lost : List Int) : DH := [some (.cells [.ref 1 0]), some (.cells (consC c ++ probC q ++ [.ints pos, .msl 2 1 0 ln])), some (.ints lost), some (.cells [.fn 66 1 (L1 [.ref 0 0])]), some (.cells [.int .i64 (pos.getD ((c.cells.getD 1 0).toNat) 0)]), some (.cells [.int .i64 0]), some (.cells [.int .i64 0]), some (.iter ((symsI (pos.getD ((c.cells.getD 0 0).toNat) 0)).map encI))]
def hp_pairN_2 (c : ConsD) (q : ProbD) (pos : List Int) (ln : Nat) (y1_0_0 : List Int) (y1_0_1 y1_0_2 : Int) : DH := [some (.cells [.ref 1 0]), some (.cells (consC c ++ probC q ++ [.ints pos, .msl 2 1 0 ln])), some (.ints y1_0_0), some (.cells [.fn 66 1 (L1 [.ref 0 0])]), some (.cells [.int .i64 (pos.getD ((c.cells.getD 1 0).toNat) 0)]), some (.cells [.int .i64 y1_0_1]), some (.cells [.int .i64 y1_0_2]), none]
def hp_pairN_3 (c : ConsD) (q : ProbD) (pos : List Int) (ln : Nat) (y2 : (List Int)) (y1_0_1 y1_0_2 : Int) : DH := [some (.cells [.ref 1 0]), some (.cells (consC c ++ probC q ++ [.ints pos, .msl 2 1 0 ln])), some (.ints y2), some (.cells [.fn 66 1 (L1 [.ref 0 0])]), some (.cells [.int .i64 (pos.getD ((c.cells.getD 1 0).toNat) 0)]), some (.cells [.int .i64 y1_0_1]), some (.cells [.int .i64 y1_0_2]), none]
def hp_pairN_4 (c : ConsD) (q : ProbD) (pos : List Int) (ln : Nat) (r42s0_2 : List Int) (r42s0_5_0 r42s0_6_0 e42 : Int) : DH := [some (.cells [.ref 1 0]), some (.cells (consC c ++ probC q ++ [.ints pos, .msl 2 1 0 ln])), some (.ints r42s0_2), some (.cells [.fn 66 1 (L1 [.ref 0 0])]), some (.cells [.int .i64 (pos.getD ((c.cells.getD 1 0).toNat) 0)]), some (.cells [.int .i64 r42s0_5_0]), some (.cells [.int .i64 r42s0_6_0]), none, some (.cells [.int .i64 e42])]
def hp_pairN_5 (c : ConsD) (q : ProbD) (pos : List Int) (ln : Nat) (r42s0_2 : List Int) (r42s0_5_0 r42s0_6_0 e42 : Int) : DH := [some (.cells [.ref 1 0]), some (.cells (consC c ++ probC q ++ [.ints pos, .msl 2 1 0 ln])), some (.ints r42s0_2), some (.cells [.fn 66 1 (L1 [.ref 0 0])]), some (.cells [.int .i64 (pos.getD ((c.cells.getD 1 0).toNat) 0)]), some (.cells [.int .i64 r42s0_5_0]), some (.cells [.int .i64 r42s0_6_0]), none, some (.cells [.int .i64 e42]), some (.iter ((symsI (pos.getD ((c.cells.getD 1 0).toNat) 0)).map encI))]
def hp_pairN_6 (c : ConsD) (q : ProbD) (pos : List Int) (ln : Nat) (r45s0_2 : List Int) (r45s0_5_0 r45s0_6_0 e42 : Int) : DH := [some (.cells [.ref 1 0]), some (.cells (consC c ++ probC q ++ [.ints pos, .msl 2 1 0 ln])), some (.ints r45s0_2), some (.cells [.fn 66 1 (L1 [.ref 0 0])]), some (.cells [.int .i64 (pos.getD ((c.cells.getD 1 0).toNat) 0)]), some (.cells [.int .i64 r45s0_5_0]), some (.cells [.int .i64 r45s0_6_0]), none, some (.cells [.int .i64 e42]), none]
inductive pairN_b42_b45T where
  | s0 (r45s0_2 : List Int) (r45s0_5_0 r45s0_6_0 : Int)
def pairN_b42_b45_H (c : ConsD) (q : ProbD) (pos : List Int) (ln : Nat) (e42 : Int) : pairN_b42_b45T → DH
  | .s0 r45s0_2 r45s0_5_0 r45s0_6_0 => [some (.cells [.ref 1 0]), some (.cells (consC c ++ probC q ++ [.ints pos, .msl 2 1 0 ln])), some (.ints r45s0_2), some (.cells [.fn 66 1 (L1 [.ref 0 0])]), some (.cells [.int .i64 (pos.getD ((c.cells.getD 1 0).toNat) 0)]), some (.cells [.int .i64 r45s0_5_0]), some (.cells [.int .i64 r45s0_6_0]), none, some (.cells [.int .i64 e42]), none]
def pairN_b42_b45_e0 (n : Nat) (c : ConsD) (q : ProbD) (pos : List Int) (ln : Nat) (e42 e45 : Int) (r45s0_2 : List Int) (r45s0_5_0 r45s0_6_0 : Int) : Option pairN_b42_b45T :=
  (notF n e42 e45 c q pos ln r45s0_2).bind fun b45_y1 =>
   bif b45_y1.1 then
    if ((0 : Int) ≤ e42 ∧ e42 ≤ ((IntKind.i64.bits : Nat) : Int)) ∧ ((0 : Int) ≤ e45 ∧ e45 ≤ ((IntKind.i64.bits : Nat) : Int)) then
     some (.s0 b45_y1.2 (bits .or .i64 r45s0_5_0 (IntKind.i64.wrap (1 * 2 ^ (e42).toNat))) (bits .or .i64 r45s0_6_0 (IntKind.i64.wrap (1 * 2 ^ (e45).toNat))))
    else none
   else
    some (.s0 b45_y1.2 r45s0_5_0 r45s0_6_0)
def pairN_b42_b45_l0 (n : Nat) (c : ConsD) (q : ProbD) (pos : List Int) (ln : Nat) (e42 e45 : Int) : pairN_b42_b45T → Option pairN_b42_b45T
  | .s0 r45s0_2 r45s0_5_0 r45s0_6_0 => pairN_b42_b45_e0 n c q pos ln e42 e45 r45s0_2 r45s0_5_0 r45s0_6_0
def pairN_b42_b45 (n : Nat) (c : ConsD) (q : ProbD) (pos : List Int) (ln : Nat) (e42 e45 : Int) (s : pairN_b42_b45T) : Option pairN_b42_b45T := pairN_b42_b45_l0 n c q pos ln e42 e45 s
set_option maxRecDepth 100000 in
set_option maxHeartbeats 4000000 in
theorem pairN_b42_b45_ok (l B : Nat) (N : Yard Tryd.prog GG 10) (n : Nat) (c : ConsD) (q : ProbD) (pos : List Int) (ln : Nat) (e42 e45 : Int) (s : pairN_b42_b45T) (r : pairN_b42_b45T) (h : pairN_b42_b45 n c q pos ln e42 e45 s = some r) : TrA Tryd.prog GG (Fence.wide.inRound l) (some B) 10 N (RndQ 10 [] 0 (pairN_b42_b45_H c q pos ln e42 r)) (rgA Tryd.f64 45) (rgB Tryd.f64 45) ⟨frm 69 [(3, .ref 3 0), (9, .ref 5 0), (10, .ref 6 0), (11, .ref 8 0), (45, .it 9), (46, .int .i64 e45)], pairN_b42_b45_H c q pos ln e42 s⟩ := by
  have hX : HX (Fence.wide.inRound l) Tryd.prog := ⟨FOk.round l, by kernel_rfl⟩
  unfold pairN_b42_b45 at h
  cases s with
  | s0 r45s0_2 r45s0_5_0 r45s0_6_0 =>
    have h : pairN_b42_b45_e0 n c q pos ln e42 e45 r45s0_2 r45s0_5_0 r45s0_6_0 = some r := h
    unfold pairN_b42_b45_e0 at h
    refine TrA.g hX sch_pairN 6 [3, 4, 9, 10, 11, 12] [0, 1, 2, 3, 4, 5, 6, 7, 8, 9] .e (frm 69 [(3, .ref 3 0), (9, .ref 5 0), (10, .ref 6 0), (11, .ref 8 0), (12, .int .i64 e45)]) (hp_pairN_6 c q pos ln r45s0_2 r45s0_5_0 r45s0_6_0 e42) (by kernel_rfl) ?_
    intro N
    obtain ⟨b45_y1, hb45_y1, h⟩ := bindSome h
    rcases bifSome h with ⟨b45_c0, h⟩ | ⟨b45_c0, h⟩
    · obtain ⟨⟨b45_g0, b45_g1⟩, h⟩ := guardSome h
      cases h
      exact TrK.r hX sch_pairN 13 [0, 1, 2, 3, 4, 5, 6, 7, 8, 9] [] (.c (ES.emC (notF_ok e42 e45 c q pos ln r45s0_2 hb45_y1) [0, 1, 2] (hp_pairN_6 c q pos ln r45s0_2 r45s0_5_0 r45s0_6_0 e42) (by kernel_rfl) (by kernel_rfl)) <| .o 50 (DLe.bool b45_c0) <| .g s_pairN_9 <| .g b45_g0 <| .g trivial <| .g s_pairN_10 <| .g b45_g1 <| .g trivial <| .e) rfl (by kernel_rfl)
    · cases h
      exact TrK.r hX sch_pairN 11 [0, 1, 2, 3, 4, 5, 6, 7, 8, 9] [] (.c (ES.emC (notF_ok e42 e45 c q pos ln r45s0_2 hb45_y1) [0, 1, 2] (hp_pairN_6 c q pos ln r45s0_2 r45s0_5_0 r45s0_6_0 e42) (by kernel_rfl) (by kernel_rfl)) <| .o 50 (DLe.bool b45_c0) <| .e) rfl (by kernel_rfl)


inductive pairN_b42T where
  | s0 (r42s0_2 : List Int) (r42s0_5_0 r42s0_6_0 : Int)
def pairN_b42_H (c : ConsD) (q : ProbD) (pos : List Int) (ln : Nat) : pairN_b42T → DH
  | .s0 r42s0_2 r42s0_5_0 r42s0_6_0 => [some (.cells [.ref 1 0]), some (.cells (consC c ++ probC q ++ [.ints pos, .msl 2 1 0 ln])), some (.ints r42s0_2), some (.cells [.fn 66 1 (L1 [.ref 0 0])]), some (.cells [.int .i64 (pos.getD ((c.cells.getD 1 0).toNat) 0)]), some (.cells [.int .i64 r42s0_5_0]), some (.cells [.int .i64 r42s0_6_0]), none]
def pairN_b42_e0 (n : Nat) (c : ConsD) (q : ProbD) (pos : List Int) (ln : Nat) (e42 : Int) (r42s0_2 : List Int) (r42s0_5_0 r42s0_6_0 : Int) : Option pairN_b42T :=
  if (0 : Int) ≤ (pos.getD ((c.cells.getD 1 0).toNat) 0) ∧ (pos.getD ((c.cells.getD 1 0).toNat) 0) < 9223372036854775808 then
   (foldO (pairN_b42_b45 n c q pos ln e42) (symsI (pos.getD ((c.cells.getD 1 0).toNat) 0)) (.s0 r42s0_2 r42s0_5_0 r42s0_6_0)).bind fun b42_y1 =>
    match b42_y1 with
    | .s0 b42_y1_0_0 b42_y1_0_1 b42_y1_0_2 =>
     some (.s0 b42_y1_0_0 b42_y1_0_1 b42_y1_0_2)
  else none
def pairN_b42_l0 (n : Nat) (c : ConsD) (q : ProbD) (pos : List Int) (ln : Nat) (e42 : Int) : pairN_b42T → Option pairN_b42T
  | .s0 r42s0_2 r42s0_5_0 r42s0_6_0 => pairN_b42_e0 n c q pos ln e42 r42s0_2 r42s0_5_0 r42s0_6_0
def pairN_b42 (n : Nat) (c : ConsD) (q : ProbD) (pos : List Int) (ln : Nat) (e42 : Int) (s : pairN_b42T) : Option pairN_b42T := pairN_b42_l0 n c q pos ln e42 s
set_option maxRecDepth 100000 in
set_option maxHeartbeats 4000000 in
theorem pairN_b42_ok (l B : Nat) (N : Yard Tryd.prog GG 8) (n : Nat) (c : ConsD) (q : ProbD) (pos : List Int) (ln : Nat) (e42 : Int) (s : pairN_b42T) (r : pairN_b42T) (h : pairN_b42 n c q pos ln e42 s = some r) : TrA Tryd.prog GG (Fence.wide.inRound l) (some B) 8 N (RndQ 8 [] 0 (pairN_b42_H c q pos ln r)) (rgA Tryd.f64 42) (rgB Tryd.f64 42) ⟨frm 69 [(0, .ref 1 0), (3, .ref 3 0), (5, .int .i64 (c.cells.getD 0 0)), (6, .int .i64 (c.cells.getD 1 0)), (8, .ref 4 0), (9, .ref 5 0), (10, .ref 6 0), (42, .it 7), (43, .int .i64 e42)], pairN_b42_H c q pos ln s⟩ := by
  have hX : HX (Fence.wide.inRound l) Tryd.prog := ⟨FOk.round l, by kernel_rfl⟩
  unfold pairN_b42 at h
  cases s with
  | s0 r42s0_2 r42s0_5_0 r42s0_6_0 =>
    have h : pairN_b42_e0 n c q pos ln e42 r42s0_2 r42s0_5_0 r42s0_6_0 = some r := h
    unfold pairN_b42_e0 at h
    refine TrA.g hX sch_pairN 6 [3, 4, 8, 9, 10, 11, 46] [0, 1, 2, 3, 4, 5, 6, 7, 8] (.g trivial <| .e) (frm 69 [(3, .ref 3 0), (8, .ref 4 0), (9, .ref 5 0), (10, .ref 6 0), (11, .ref 8 0)]) (hp_pairN_4 c q pos ln r42s0_2 r42s0_5_0 r42s0_6_0 e42) (by kernel_rfl) ?_
    intro N
    obtain ⟨b42_g0, h⟩ := guardSome h
    obtain ⟨b42_y1, hb42_y1, h⟩ := bindSome h
    refine TrK.gS hX sch_pairN 9 [3, 4, 9, 10, 11, 45, 46] [0, 1, 2, 3, 4, 5, 6, 7, 8, 9] [] (.c (symbols_it b42_g0 (hp_pairN_4 c q pos ln r42s0_2 r42s0_5_0 r42s0_6_0 e42)) <| .e) [] .e (atT (rgB Tryd.f64 42) 45 []) (frm 69 [(3, .ref 3 0), (9, .ref 5 0), (10, .ref 6 0), (11, .ref 8 0), (45, .it 9)]) (hp_pairN_5 c q pos ln r42s0_2 r42s0_5_0 r42s0_6_0 e42) (by kernel_rfl) (by kernel_rfl) ?_
    refine TrK.rg0 (.inr ⟨l, rfl⟩) 9 45 #[46] encI 10 hb42_y1 (fun l B N e s r hs => pairN_b42_b45_ok l B N n c q pos ln e42 e s r hs) (by kernel_rfl) (by kernel_rfl) (by kernel_rfl) (fun _ => rfl) (by kernel_rfl) (by kernel_rfl) (by kernel_rfl) (by kernel_rfl) ?_
    cases b42_y1 with
    | s0 b42_y1_0_0 b42_y1_0_1 b42_y1_0_2 =>
      dsimp only at h
      cases h
      exact TrK.r hX sch_pairN 7 [0, 1, 2, 3, 4, 5, 6, 7] [] .e rfl (by kernel_rfl)


def pairN_l0 (n : Nat) (c : ConsD) (q : ProbD) (pos : List Int) (ln : Nat) (lost : List Int) : Option (Bool × (List Int)) :=
  if ((0 : Int) ≤ 0 ∧ 0 < ((c.cells.length : Nat) : Int)) ∧ ((0 : Int) ≤ 1 ∧ 1 < ((c.cells.length : Nat) : Int)) ∧ ((0 : Int) ≤ (c.cells.getD 0 0) ∧ (c.cells.getD 0 0) < ((pos.length : Nat) : Int)) ∧ ((0 : Int) ≤ (c.cells.getD 1 0) ∧ (c.cells.getD 1 0) < ((pos.length : Nat) : Int)) ∧ ((0 : Int) ≤ (pos.getD ((c.cells.getD 0 0).toNat) 0) ∧ (pos.getD ((c.cells.getD 0 0).toNat) 0) < 9223372036854775808) then
   (foldO (pairN_b42 n c q pos ln) (symsI (pos.getD ((c.cells.getD 0 0).toNat) 0)) (.s0 lost 0 0)).bind fun y1 =>
    match y1 with
    | .s0 y1_0_0 y1_0_1 y1_0_2 =>
     (loseW n (c.cells.getD 0 0) (bits .xor .i64 (-1) y1_0_1) c q pos ln y1_0_0).bind fun y2 =>
      (loseW n (c.cells.getD 1 0) (bits .xor .i64 (-1) y1_0_2) c q pos ln y2).bind fun y3 =>
       some (true, y3)
  else none
def pairN (n : Nat) (c : ConsD) (q : ProbD) (pos : List Int) (ln : Nat) (lost : List Int) : Option (Bool × (List Int)) := pairN_l0 n c q pos ln lost
set_option maxRecDepth 100000 in
set_option maxHeartbeats 4000000 in
theorem pairN_ok {n : Nat} (c : ConsD) (q : ProbD) (pos : List Int) (ln : Nat) (lost : List Int) {r : Bool × (List Int)} (h : pairN n c q pos ln lost = some r) : ES Tryd.prog GG 64 [.ref 1 0, .fn 66 1 (L1 [.ref 0 0])] [some (.cells [.ref 1 0]), some (.cells (consC c ++ probC q ++ [.ints pos, .msl 2 1 0 ln])), some (.ints lost)] (.bool r.1) [some (.cells [.ref 1 0]), some (.cells (consC c ++ probC q ++ [.ints pos, .msl 2 1 0 ln])), some (.ints r.2)] false := by
  have hX : HX Fence.wide Tryd.prog := ⟨FOk.wide, by kernel_rfl⟩
  refine ES.of_trk Tryd.func64 (by kernel_rfl) (by kernel_rfl) (noIterB (by kernel_rfl)) (fun e => by cases e) fun B N => ?_
  unfold pairN at h
  unfold pairN_l0 at h
  obtain ⟨⟨g0, g1, g2, g3, g4⟩, h⟩ := guardSome h
  obtain ⟨y1, hy1, h⟩ := bindSome h
  refine TrK.gS hX sch_pairN 17 [0, 3, 5, 6, 8, 9, 10, 42, 43, 46] [0, 1, 2, 3, 4, 5, 6, 7] [] (.g s_pairN_1 <| .g g0 <| .g g1 <| .g s_pairN_2 <| .g g2 <| .g g3 <| .g trivial <| .c (symbols_it g4 (hp_pairN_0 c q pos ln lost)) <| .e) [] .e (atT (bodyC Tryd.f64) 42 []) (frm 69 [(0, .ref 1 0), (3, .ref 3 0), (5, .int .i64 (c.cells.getD 0 0)), (6, .int .i64 (c.cells.getD 1 0)), (8, .ref 4 0), (9, .ref 5 0), (10, .ref 6 0), (42, .it 7)]) (hp_pairN_1 c q pos ln lost) (by kernel_rfl) (by kernel_rfl) ?_
  refine TrK.rg0 (.inl rfl) 7 42 #[43] encI 8 hy1 (fun l B N e s r hs => pairN_b42_ok l B N n c q pos ln e s r hs) (by kernel_rfl) (by kernel_rfl) (by kernel_rfl) (fun _ => rfl) (by kernel_rfl) (by kernel_rfl) (by kernel_rfl) (by kernel_rfl) ?_
  cases y1 with
  | s0 y1_0_0 y1_0_1 y1_0_2 =>
    dsimp only at h
    obtain ⟨y2, hy2, h⟩ := bindSome h
    obtain ⟨y3, hy3, h⟩ := bindSome h
    cases h
    exact TrK.e hX sch_pairN 12 [4] [0, 1, 2] [] (.c (ES.emC (loseW_ok (c.cells.getD 0 0) (bits .xor .i64 (-1) y1_0_1) c q pos ln y1_0_0 hy2) [1, 2] (hp_pairN_2 c q pos ln y1_0_0 y1_0_1 y1_0_2) (by kernel_rfl) (by kernel_rfl)) <| .c (ES.emC (loseW_ok (c.cells.getD 1 0) (bits .xor .i64 (-1) y1_0_2) c q pos ln y2 hy3) [1, 2] (hp_pairN_3 c q pos ln y2 y1_0_1 y1_0_2) (by kernel_rfl) (by kernel_rfl)) <| .e) [] .e (by kernel_rfl)


def sch_apartW : Sch := fun i => match i with
  | _ => .no
def apartW_l0 (n : Nat) (c : ConsD) (q : ProbD) (pos : List Int) (ln : Nat) (lost : List Int) : Option (Bool × (List Int)) :=
  (pairA n c q pos ln lost).bind fun y1 =>
   some (y1.1, y1.2)
def apartW (n : Nat) (c : ConsD) (q : ProbD) (pos : List Int) (ln : Nat) (lost : List Int) : Option (Bool × (List Int)) := apartW_l0 n c q pos ln lost
set_option maxRecDepth 100000 in
set_option maxHeartbeats 4000000 in
theorem apartW_ok {n : Nat} (c : ConsD) (q : ProbD) (pos : List Int) (ln : Nat) (lost : List Int) {r : Bool × (List Int)} (h : apartW n c q pos ln lost = some r) : ES Tryd.prog GG 45 [.ref 0 0] [some (.cells (consC c ++ probC q ++ [.ints pos, .msl 1 1 0 ln])), some (.ints lost)] (.bool r.1) [some (.cells (consC c ++ probC q ++ [.ints pos, .msl 1 1 0 ln])), some (.ints r.2)] false := by
  have hX : HX Fence.wide Tryd.prog := ⟨FOk.wide, by kernel_rfl⟩
  refine ES.of_trk Tryd.func45 (by kernel_rfl) (by kernel_rfl) (noIterB (by kernel_rfl)) (fun e => by cases e) fun B N => ?_
  unfold apartW at h
  unfold apartW_l0 at h
  obtain ⟨y1, hy1, h⟩ := bindSome h
  cases h
  exact TrK.e hX sch_apartW 9 [2] [0, 1] [] (.c (ES.emC (pairA_ok c q pos ln lost hy1) [2, 0, 1] [some (.cells (consC c ++ probC q ++ [.ints pos, .msl 1 1 0 ln])), some (.ints lost), some (.cells [.ref 0 0])] (by kernel_rfl) (by kernel_rfl)) <| .e) [] .e (by kernel_rfl)


def sch_notW : Sch := fun i => match i with
  | _ => .no
def notW_l0 (n : Nat) (c : ConsD) (q : ProbD) (pos : List Int) (ln : Nat) (lost : List Int) : Option (Bool × (List Int)) :=
  (pairN n c q pos ln lost).bind fun y1 =>
   some (y1.1, y1.2)
def notW (n : Nat) (c : ConsD) (q : ProbD) (pos : List Int) (ln : Nat) (lost : List Int) : Option (Bool × (List Int)) := notW_l0 n c q pos ln lost
set_option maxRecDepth 100000 in
set_option maxHeartbeats 4000000 in
theorem notW_ok {n : Nat} (c : ConsD) (q : ProbD) (pos : List Int) (ln : Nat) (lost : List Int) {r : Bool × (List Int)} (h : notW n c q pos ln lost = some r) : ES Tryd.prog GG 46 [.ref 0 0] [some (.cells (consC c ++ probC q ++ [.ints pos, .msl 1 1 0 ln])), some (.ints lost)] (.bool r.1) [some (.cells (consC c ++ probC q ++ [.ints pos, .msl 1 1 0 ln])), some (.ints r.2)] false := by
  have hX : HX Fence.wide Tryd.prog := ⟨FOk.wide, by kernel_rfl⟩
  refine ES.of_trk Tryd.func46 (by kernel_rfl) (by kernel_rfl) (noIterB (by kernel_rfl)) (fun e => by cases e) fun B N => ?_
  unfold notW at h
  unfold notW_l0 at h
  obtain ⟨y1, hy1, h⟩ := bindSome h
  cases h
  exact TrK.e hX sch_notW 9 [2] [0, 1] [] (.c (ES.emC (pairN_ok c q pos ln lost hy1) [2, 0, 1] [some (.cells (consC c ++ probC q ++ [.ints pos, .msl 1 1 0 ln])), some (.ints lost), some (.cells [.ref 0 0])] (by kernel_rfl) (by kernel_rfl)) <| .e) [] .e (by kernel_rfl)


def sch_changeWithout : Sch := fun i => match i with
  | _ => .no
def changeWithout_l0 (n : Nat) (q : ProbD) (pos : List Int) (cell sy : Int) : Option ((List Int) × Int) :=
  (pcheck n q pos).bind fun y1 =>
   bif (y1 != 0) then
    some (([] : List Int), y1)
   else
    bif (decide (cell < 0)) then
     some (([] : List Int), 1)
    else
     bif (decide (cell ≥ q.cells)) then
      some (([] : List Int), 1)
     else
      bif (decide (sy < 0)) then
       some (([] : List Int), 1)
      else
       bif (decide (sy ≥ q.symbols)) then
        some (([] : List Int), 1)
       else
        if ((True) ∧ (0 = 0 ∧ 0 = ([] : List Int).length) ∧ ([] : List Int).length + pos.length ≤ LIM) ∧ ((0 : Int) ≤ cell ∧ cell < ((([] : List Int).length + pos.length : Nat) : Int)) ∧ 0 + ((cell).toNat) < (([] : List Int) ++ pos).length then
         (withoutP n (IntKind.u64.wrap ((([] : List Int) ++ pos).getD (0 + ((cell).toNat)) 0)) sy).bind fun y2 =>
          if ([] : List Int).length + pos.length = ((([] : List Int) ++ pos).set (0 + ((cell).toNat)) (IntKind.i64.wrap y2)).length then
           (normalP n ((([] : List Int) ++ pos).set (0 + ((cell).toNat)) (IntKind.i64.wrap y2))).bind fun y3 =>
            some (y3, 0)
          else none
        else none
def changeWithout (n : Nat) (q : ProbD) (pos : List Int) (cell sy : Int) : Option ((List Int) × Int) := changeWithout_l0 n q pos cell sy
set_option maxRecDepth 100000 in
set_option maxHeartbeats 4000000 in
theorem changeWithout_ok {n : Nat} (q : ProbD) (pos : List Int) (cell sy : Int) {r : (List Int) × Int} (h : changeWithout n q pos cell sy = some r) : ES Tryd.prog GG 28 [.agg 5 (L1 (probC q)), .ints pos, .int .i64 cell, .int .i64 sy, .fn 29 0 (L1 [])] [] (.tup 2 (L1 [.ints r.1, .int .i64 r.2])) [] true := by
  have hX : HX Fence.wide Tryd.prog := ⟨FOk.wide, by kernel_rfl⟩
  refine ES.of_trk Tryd.func28 (by kernel_rfl) (by kernel_rfl) noIter_nil (fun _ => rfl) fun B N => ?_
  unfold changeWithout at h
  unfold changeWithout_l0 at h
  obtain ⟨y1, hy1, h⟩ := bindSome h
  rcases bifSome h with ⟨c0, h⟩ | ⟨c0, h⟩
  · cases h
    exact TrK.el hX sch_changeWithout 15 [10, 11] [] [] (.c (ES.frameB (pcheck_ok q pos hy1) [some (.cells (probC q))] (by kernel_rfl)) <| .o 18 (DLe.bool c0) <| .e) [] .e [.nils, .int .i64 y1] (DLe.tupL (l := [.nils, .int .i64 y1]) (l' := [.ints ([] : List Int), .int .i64 y1]) rfl ⟨DLe.ints_nil, (DLe.refl _), trivial⟩) (by kernel_rfl)
  · rcases bifSome h with ⟨c1, h⟩ | ⟨c1, h⟩
    · cases h
      exact TrK.el hX sch_changeWithout 20 [10, 11] [] [] (.c (ES.frameB (pcheck_ok q pos hy1) [some (.cells (probC q))] (by kernel_rfl)) <| .o 18 (DLe.bool c0) <| .o 21 (DLe.bool c1) <| .e) [] .e [.nils, .int .i64 1] (DLe.tupL (l := [.nils, .int .i64 1]) (l' := [.ints ([] : List Int), .int .i64 1]) rfl ⟨DLe.ints_nil, (DLe.refl _), trivial⟩) (by kernel_rfl)
    · rcases bifSome h with ⟨c2, h⟩ | ⟨c2, h⟩
      · cases h
        exact TrK.el hX sch_changeWithout 20 [10, 11] [] [] (.c (ES.frameB (pcheck_ok q pos hy1) [some (.cells (probC q))] (by kernel_rfl)) <| .o 18 (DLe.bool c0) <| .o 21 (DLe.bool c1) <| .o 26 (DLe.bool c2) <| .e) [] .e [.nils, .int .i64 1] (DLe.tupL (l := [.nils, .int .i64 1]) (l' := [.ints ([] : List Int), .int .i64 1]) rfl ⟨DLe.ints_nil, (DLe.refl _), trivial⟩) (by kernel_rfl)
      · rcases bifSome h with ⟨c3, h⟩ | ⟨c3, h⟩
        · cases h
          exact TrK.el hX sch_changeWithout 20 [10, 11] [] [] (.c (ES.frameB (pcheck_ok q pos hy1) [some (.cells (probC q))] (by kernel_rfl)) <| .o 18 (DLe.bool c0) <| .o 21 (DLe.bool c1) <| .o 26 (DLe.bool c2) <| .o 30 (DLe.bool c3) <| .e) [] .e [.nils, .int .i64 1] (DLe.tupL (l := [.nils, .int .i64 1]) (l' := [.ints ([] : List Int), .int .i64 1]) rfl ⟨DLe.ints_nil, (DLe.refl _), trivial⟩) (by kernel_rfl)
        · rcases bifSome h with ⟨c4, h⟩ | ⟨c4, h⟩
          · cases h
            exact TrK.el hX sch_changeWithout 20 [10, 11] [] [] (.c (ES.frameB (pcheck_ok q pos hy1) [some (.cells (probC q))] (by kernel_rfl)) <| .o 18 (DLe.bool c0) <| .o 21 (DLe.bool c1) <| .o 26 (DLe.bool c2) <| .o 30 (DLe.bool c3) <| .o 36 (DLe.bool c4) <| .e) [] .e [.nils, .int .i64 1] (DLe.tupL (l := [.nils, .int .i64 1]) (l' := [.ints ([] : List Int), .int .i64 1]) rfl ⟨DLe.ints_nil, (DLe.refl _), trivial⟩) (by kernel_rfl)
          · obtain ⟨⟨g0, g1, g2⟩, h⟩ := guardSome h
            obtain ⟨y2, hy2, h⟩ := bindSome h
            obtain ⟨g3, h⟩ := guardSome h
            refine TrK.gS hX (stopAt 8 sch_changeWithout) 24 [13] [2] [] (.c (ES.frameB (pcheck_ok q pos hy1) [some (.cells (probC q))] (by kernel_rfl)) <| .o 18 (DLe.bool c0) <| .o 21 (DLe.bool c1) <| .o 26 (DLe.bool c2) <| .o 30 (DLe.bool c3) <| .o 36 (DLe.bool c4) <| .g g0 <| .g g1 <| .g g2 <| .c (ES.frameB (withoutP_ok (IntKind.u64.wrap ((([] : List Int) ++ pos).getD (0 + ((cell).toNat)) 0)) sy hy2) [some (.cells (probC q)), none, some (.ints (([] : List Int) ++ pos))] (by kernel_rfl)) <| .g g1 <| .g g2 <| .e) [0] (.g g3 <| .e) (atGC (bodyC Tryd.f28) 8 []) (frm 55 [(13, .ints ((([] : List Int) ++ pos).set (0 + ((cell).toNat)) (IntKind.i64.wrap y2)))]) [none] (by kernel_rfl) (by kernel_rfl) ?_
            obtain ⟨y3, hy3, h⟩ := bindSome h
            cases h
            exact TrK.e hX sch_changeWithout 6 [10, 11] [] [] (.c (ES.frameB (normalP_ok ((([] : List Int) ++ pos).set (0 + ((cell).toNat)) (IntKind.i64.wrap y2)) hy3) [none] (by kernel_rfl)) <| .e) [] .e (by kernel_rfl)


def sch_removeP : Sch := fun i => match i with
  | _ => .no
def removeP_l0 (n : Nat) (q : ProbD) (pos : List Int) (cell symbol : Int) : Option ((List Int) × Int) :=
  (changeWithout n q pos cell symbol).bind fun y1 =>
   some (y1.1, y1.2)
def removeP (n : Nat) (q : ProbD) (pos : List Int) (cell symbol : Int) : Option ((List Int) × Int) := removeP_l0 n q pos cell symbol
set_option maxRecDepth 100000 in
set_option maxHeartbeats 4000000 in
theorem removeP_ok {n : Nat} (q : ProbD) (pos : List Int) (cell symbol : Int) {r : (List Int) × Int} (h : removeP n q pos cell symbol = some r) : ES Tryd.prog GG 15 [.agg 5 (L1 (probC q)), .ints pos, .int .i64 cell, .int .i64 symbol] [] (.tup 2 (L1 [.ints r.1, .int .i64 r.2])) [] true := by
  have hX : HX Fence.wide Tryd.prog := ⟨FOk.wide, by kernel_rfl⟩
  refine ES.of_trk Tryd.func15 (by kernel_rfl) (by kernel_rfl) noIter_nil (fun _ => rfl) fun B N => ?_
  unfold removeP at h
  unfold removeP_l0 at h
  obtain ⟨y1, hy1, h⟩ := bindSome h
  cases h
  exact TrK.e hX sch_removeP 9 [8, 9] [] [] (.c (ES.frameB (changeWithout_ok q pos cell symbol hy1) [some (.cells (probC q))] (by kernel_rfl)) <| .e) [] .e (by kernel_rfl)


def sch_lineQ : Sch := fun i => match i with
  | _ => .no
def hp_lineQ_0 (kd st oth lo hi : Int) (rn : List Int) (rl spt cells_ symbols_ : Int) : DH := [some (.cells [.int .i64 kd, .nils, .int .i64 st, .int .i64 oth, .int .i64 lo, .int .i64 hi, .ints rn, .int .i64 rl, .int .i64 spt]), some (.cells [.int .i64 0, .int .i64 0, .nils, .nils, .nils]), some (.cells [.int .i64 cells_, .int .i64 symbols_, .nils, .nils, .nils]), none]
def hp_lineQ_1 (kd st oth lo hi : Int) (rn : List Int) (rl spt cells_ symbols_ : Int) (o2_2 : Nat) (o3 : List Int) : DH := [some (.cells [.int .i64 kd, .nils, .int .i64 st, .int .i64 oth, .int .i64 lo, .int .i64 hi, .ints rn, .int .i64 rl, .int .i64 spt]), some (.cells [.int .i64 0, .int .i64 0, .nils, .nils, .nils]), some (.cells [.int .i64 cells_, .int .i64 symbols_, .msl 3 1 0 o2_2, .nils, .nils]), some (.ints o3), none]
def hp_lineQ_2 (kd : Int) (o0_1 : Nat) (st oth lo hi : Int) (rn : List Int) (rl spt : Int) (o1 : List Int) (cells_ symbols_ : Int) (o3_3 : Nat) (o4 : List (List Int)) : DH := [some (.cells [.int .i64 kd, .msl 1 1 0 o0_1, .int .i64 st, .int .i64 oth, .int .i64 lo, .int .i64 hi, .ints rn, .int .i64 rl, .int .i64 spt]), some (.ints o1), some (.cells [.int .i64 0, .int .i64 0, .nils, .nils, .nils]), some (.cells [.int .i64 cells_, .int .i64 symbols_, .nils, .msl 4 1 0 o3_3, .nils]), some (.arr 1 o4.length (rowE intsC o4)), none]
def hp_lineQ_3 (kd : Int) (o1 : List Int) (st oth lo hi : Int) (rn : List Int) (rl spt cells_ symbols_ : Int) (o3_3 : Nat) (o4 : List (List Int)) : DH := [some (.cells [.int .i64 kd, .ints o1, .int .i64 st, .int .i64 oth, .int .i64 lo, .int .i64 hi, .ints rn, .int .i64 rl, .int .i64 spt]), none, some (.cells [.int .i64 0, .int .i64 0, .nils, .nils, .nils]), some (.cells [.int .i64 cells_, .int .i64 symbols_, .nils, .msl 4 1 0 o3_3, .nils]), some (.arr 1 o4.length (rowE intsC o4))]
def hp_lineQ_4 (kd : Int) (o0_1 : Nat) (st oth lo hi : Int) (rn : List Int) (rl spt : Int) (o1 : List Int) (cells_ symbols_ : Int) (o3_2 o3_3 : Nat) (o4t2 : List Int) (o5 : List (List Int)) : DH := [some (.cells [.int .i64 kd, .msl 1 1 0 o0_1, .int .i64 st, .int .i64 oth, .int .i64 lo, .int .i64 hi, .ints rn, .int .i64 rl, .int .i64 spt]), some (.ints o1), some (.cells [.int .i64 0, .int .i64 0, .nils, .nils, .nils]), some (.cells [.int .i64 cells_, .int .i64 symbols_, .msl 4 1 0 o3_2, .msl 5 1 0 o3_3, .nils]), some (.ints o4t2), some (.arr 1 o5.length (rowE intsC o5)), none]
def hp_lineQ_5 (kd : Int) (o1 : List Int) (st oth lo hi : Int) (rn : List Int) (rl spt cells_ symbols_ : Int) (o3_2 o3_3 : Nat) (o4t2 : List Int) (o5 : List (List Int)) : DH := [some (.cells [.int .i64 kd, .ints o1, .int .i64 st, .int .i64 oth, .int .i64 lo, .int .i64 hi, .ints rn, .int .i64 rl, .int .i64 spt]), none, some (.cells [.int .i64 0, .int .i64 0, .nils, .nils, .nils]), some (.cells [.int .i64 cells_, .int .i64 symbols_, .msl 4 1 0 o3_2, .msl 5 1 0 o3_3, .nils]), some (.ints o4t2), some (.arr 1 o5.length (rowE intsC o5))]
inductive lineQPt where
  | l1
  | l2 (x15 : Int) (o2_2 : Nat) (o3 : List Int)
  | l3
  | l4 (o2_2 : Nat) (o3 : List Int)
  | l5 (x27 : Int) (o0_1 : Nat) (o1 : List Int) (o3_3 : Nat) (o4 : List (List Int))
  | l6 (x27 : Int) (o0_1 : Nat) (o1 : List Int) (o3_2 o3_3 : Nat) (o4t2 : List Int) (o5 : List (List Int))
def lineQ_l1 (n : Nat) (self : lineQPt → Option ProbD) (cells_ symbols_ kd st oth lo hi : Int) (rn : List Int) (rl spt : Int) : Option ProbD :=
  bif (decide (0 < symbols_)) then
   self (.l2 1 (([1] : List Int).length) ([1] : List Int))
  else
   self (.l3)
def lineQ_l2 (n : Nat) (self : lineQPt → Option ProbD) (cells_ symbols_ kd st oth lo hi : Int) (rn : List Int) (rl spt : Int) (x15 : Int) (o2_2 : Nat) (o3 : List Int) : Option ProbD :=
  bif (decide (x15 < symbols_)) then
   if R64 (x15 + 1) ∧ ((0 = 0 ∧ 1 = ([(x15 + 1)] : List Int).length) ∧ (0 = 0 ∧ o2_2 = o3.length) ∧ o3.length + ([(x15 + 1)] : List Int).length ≤ LIM) then
    self (.l2 (x15 + 1) (o3.length + ([(x15 + 1)] : List Int).length) (o3 ++ ([(x15 + 1)] : List Int)))
   else none
  else
   self (.l4 o2_2 o3)
def lineQ_l3 (n : Nat) (self : lineQPt → Option ProbD) (cells_ symbols_ kd st oth lo hi : Int) (rn : List Int) (rl spt : Int) : Option ProbD :=
  bif (decide (0 < cells_)) then
   bif (decide (1 < cells_)) then
    self (.l5 1 (([0] : List Int).length) ([0] : List Int) (([([1] : List Int)] : List (List Int)).length) ([([1] : List Int)] : List (List Int)))
   else
    self (.l5 1 (([0] : List Int).length) ([0] : List Int) (([([] : List Int)] : List (List Int)).length) ([([] : List Int)] : List (List Int)))
  else
   some (⟨cells_, symbols_, ([] : List Int), ([] : List (List Int)), ([(⟨kd, ([] : List Int), st, oth, lo, hi, rn, rl, spt⟩ : ConsD)] : List ConsD)⟩ : ProbD)
def lineQ_l4 (n : Nat) (self : lineQPt → Option ProbD) (cells_ symbols_ kd st oth lo hi : Int) (rn : List Int) (rl spt : Int) (o2_2 : Nat) (o3 : List Int) : Option ProbD :=
  bif (decide (0 < cells_)) then
   bif (decide (1 < cells_)) then
    self (.l6 1 (([0] : List Int).length) ([0] : List Int) o2_2 (([([1] : List Int)] : List (List Int)).length) o3 ([([1] : List Int)] : List (List Int)))
   else
    self (.l6 1 (([0] : List Int).length) ([0] : List Int) o2_2 (([([] : List Int)] : List (List Int)).length) o3 ([([] : List Int)] : List (List Int)))
  else
   if o2_2 = o3.length then
    some (⟨cells_, symbols_, o3, ([] : List (List Int)), ([(⟨kd, ([] : List Int), st, oth, lo, hi, rn, rl, spt⟩ : ConsD)] : List ConsD)⟩ : ProbD)
   else none
def lineQ_l5 (n : Nat) (self : lineQPt → Option ProbD) (cells_ symbols_ kd st oth lo hi : Int) (rn : List Int) (rl spt : Int) (x27 : Int) (o0_1 : Nat) (o1 : List Int) (o3_3 : Nat) (o4 : List (List Int)) : Option ProbD :=
  bif (decide (x27 < cells_)) then
   bif (decide (x27 > 0)) then
    if R64 (x27 - 1) ∧ ((0 = 0 ∧ 1 = ([(x27 - 1)] : List Int).length) ∧ 0 < ([(x27 - 1)] : List Int).length ∧ ([(x27 - 1)] : List Int).length ≤ LIM) ∧ R64 (x27 + 1) then
     bif (decide ((x27 + 1) < cells_)) then
      if (0 = 0 ∧ 1 = ([(x27 + 1)] : List Int).length) ∧ (0 = 0 ∧ ([(x27 - 1)] : List Int).length = ([(x27 - 1)] : List Int).length) ∧ ([(x27 - 1)] : List Int).length + ([(x27 + 1)] : List Int).length ≤ LIM then
       if ([(x27 - 1)] : List Int).length + ([(x27 + 1)] : List Int).length = (([(x27 - 1)] : List Int) ++ ([(x27 + 1)] : List Int)).length then
        if o3_3 = o4.length ∧ o4.length + ([([(x27 - 1)] : List Int) ++ ([(x27 + 1)] : List Int)] : List (List Int)).length ≤ LIM ∧ ((0 = 0 ∧ 1 = ([x27] : List Int).length) ∧ (0 = 0 ∧ o0_1 = o1.length) ∧ o1.length + ([x27] : List Int).length ≤ LIM) ∧ R64 (x27 + 1) then
         self (.l5 (x27 + 1) (o1.length + ([x27] : List Int).length) (o1 ++ ([x27] : List Int)) (o4.length + ([([(x27 - 1)] : List Int) ++ ([(x27 + 1)] : List Int)] : List (List Int)).length) (o4 ++ ([([(x27 - 1)] : List Int) ++ ([(x27 + 1)] : List Int)] : List (List Int))))
        else none
       else none
      else none
     else
      if o3_3 = o4.length ∧ o4.length + ([([(x27 - 1)] : List Int)] : List (List Int)).length ≤ LIM ∧ ((0 = 0 ∧ 1 = ([x27] : List Int).length) ∧ (0 = 0 ∧ o0_1 = o1.length) ∧ o1.length + ([x27] : List Int).length ≤ LIM) ∧ R64 (x27 + 1) then
       self (.l5 (x27 + 1) (o1.length + ([x27] : List Int).length) (o1 ++ ([x27] : List Int)) (o4.length + ([([(x27 - 1)] : List Int)] : List (List Int)).length) (o4 ++ ([([(x27 - 1)] : List Int)] : List (List Int))))
      else none
    else none
   else
    if R64 (x27 + 1) then
     bif (decide ((x27 + 1) < cells_)) then
      if (0 = 0 ∧ 1 = ([(x27 + 1)] : List Int).length) ∧ 0 < ([(x27 + 1)] : List Int).length ∧ ([(x27 + 1)] : List Int).length ≤ LIM then
       if o3_3 = o4.length ∧ o4.length + ([([(x27 + 1)] : List Int)] : List (List Int)).length ≤ LIM ∧ ((0 = 0 ∧ 1 = ([x27] : List Int).length) ∧ (0 = 0 ∧ o0_1 = o1.length) ∧ o1.length + ([x27] : List Int).length ≤ LIM) ∧ R64 (x27 + 1) then
        self (.l5 (x27 + 1) (o1.length + ([x27] : List Int).length) (o1 ++ ([x27] : List Int)) (o4.length + ([([(x27 + 1)] : List Int)] : List (List Int)).length) (o4 ++ ([([(x27 + 1)] : List Int)] : List (List Int))))
       else none
      else none
     else
      if o3_3 = o4.length ∧ o4.length + ([([] : List Int)] : List (List Int)).length ≤ LIM ∧ ((0 = 0 ∧ 1 = ([x27] : List Int).length) ∧ (0 = 0 ∧ o0_1 = o1.length) ∧ o1.length + ([x27] : List Int).length ≤ LIM) then
       self (.l5 (x27 + 1) (o1.length + ([x27] : List Int).length) (o1 ++ ([x27] : List Int)) (o4.length + ([([] : List Int)] : List (List Int)).length) (o4 ++ ([([] : List Int)] : List (List Int))))
      else none
    else none
  else
   if o0_1 = o1.length then
    if o3_3 = o4.length then
     some (⟨cells_, symbols_, ([] : List Int), o4, ([(⟨kd, o1, st, oth, lo, hi, rn, rl, spt⟩ : ConsD)] : List ConsD)⟩ : ProbD)
    else none
   else none
def lineQ_l6 (n : Nat) (self : lineQPt → Option ProbD) (cells_ symbols_ kd st oth lo hi : Int) (rn : List Int) (rl spt : Int) (x27 : Int) (o0_1 : Nat) (o1 : List Int) (o3_2 o3_3 : Nat) (o4t2 : List Int) (o5 : List (List Int)) : Option ProbD :=
  bif (decide (x27 < cells_)) then
   bif (decide (x27 > 0)) then
    if R64 (x27 - 1) ∧ ((0 = 0 ∧ 1 = ([(x27 - 1)] : List Int).length) ∧ 0 < ([(x27 - 1)] : List Int).length ∧ ([(x27 - 1)] : List Int).length ≤ LIM) ∧ R64 (x27 + 1) then
     bif (decide ((x27 + 1) < cells_)) then
      if (0 = 0 ∧ 1 = ([(x27 + 1)] : List Int).length) ∧ (0 = 0 ∧ ([(x27 - 1)] : List Int).length = ([(x27 - 1)] : List Int).length) ∧ ([(x27 - 1)] : List Int).length + ([(x27 + 1)] : List Int).length ≤ LIM then
       if ([(x27 - 1)] : List Int).length + ([(x27 + 1)] : List Int).length = (([(x27 - 1)] : List Int) ++ ([(x27 + 1)] : List Int)).length then
        if o3_3 = o5.length ∧ o5.length + ([([(x27 - 1)] : List Int) ++ ([(x27 + 1)] : List Int)] : List (List Int)).length ≤ LIM ∧ ((0 = 0 ∧ 1 = ([x27] : List Int).length) ∧ (0 = 0 ∧ o0_1 = o1.length) ∧ o1.length + ([x27] : List Int).length ≤ LIM) ∧ R64 (x27 + 1) then
         self (.l6 (x27 + 1) (o1.length + ([x27] : List Int).length) (o1 ++ ([x27] : List Int)) o3_2 (o5.length + ([([(x27 - 1)] : List Int) ++ ([(x27 + 1)] : List Int)] : List (List Int)).length) o4t2 (o5 ++ ([([(x27 - 1)] : List Int) ++ ([(x27 + 1)] : List Int)] : List (List Int))))
        else none
       else none
      else none
     else
      if o3_3 = o5.length ∧ o5.length + ([([(x27 - 1)] : List Int)] : List (List Int)).length ≤ LIM ∧ ((0 = 0 ∧ 1 = ([x27] : List Int).length) ∧ (0 = 0 ∧ o0_1 = o1.length) ∧ o1.length + ([x27] : List Int).length ≤ LIM) ∧ R64 (x27 + 1) then
       self (.l6 (x27 + 1) (o1.length + ([x27] : List Int).length) (o1 ++ ([x27] : List Int)) o3_2 (o5.length + ([([(x27 - 1)] : List Int)] : List (List Int)).length) o4t2 (o5 ++ ([([(x27 - 1)] : List Int)] : List (List Int))))
      else none
    else none
   else
    if R64 (x27 + 1) then
     bif (decide ((x27 + 1) < cells_)) then
      if (0 = 0 ∧ 1 = ([(x27 + 1)] : List Int).length) ∧ 0 < ([(x27 + 1)] : List Int).length ∧ ([(x27 + 1)] : List Int).length ≤ LIM then
       if o3_3 = o5.length ∧ o5.length + ([([(x27 + 1)] : List Int)] : List (List Int)).length ≤ LIM ∧ ((0 = 0 ∧ 1 = ([x27] : List Int).length) ∧ (0 = 0 ∧ o0_1 = o1.length) ∧ o1.length + ([x27] : List Int).length ≤ LIM) ∧ R64 (x27 + 1) then
        self (.l6 (x27 + 1) (o1.length + ([x27] : List Int).length) (o1 ++ ([x27] : List Int)) o3_2 (o5.length + ([([(x27 + 1)] : List Int)] : List (List Int)).length) o4t2 (o5 ++ ([([(x27 + 1)] : List Int)] : List (List Int))))
       else none
      else none
     else
      if o3_3 = o5.length ∧ o5.length + ([([] : List Int)] : List (List Int)).length ≤ LIM ∧ ((0 = 0 ∧ 1 = ([x27] : List Int).length) ∧ (0 = 0 ∧ o0_1 = o1.length) ∧ o1.length + ([x27] : List Int).length ≤ LIM) then
       self (.l6 (x27 + 1) (o1.length + ([x27] : List Int).length) (o1 ++ ([x27] : List Int)) o3_2 (o5.length + ([([] : List Int)] : List (List Int)).length) o4t2 (o5 ++ ([([] : List Int)] : List (List Int))))
      else none
    else none
  else
   if o0_1 = o1.length then
    if o3_2 = o4t2.length ∧ o3_3 = o5.length then
     some (⟨cells_, symbols_, o4t2, o5, ([(⟨kd, o1, st, oth, lo, hi, rn, rl, spt⟩ : ConsD)] : List ConsD)⟩ : ProbD)
    else none
   else none
def lineQ_l0 (n : Nat) (self : lineQPt → Option ProbD) (cells_ symbols_ kd st oth lo hi : Int) (rn : List Int) (rl spt : Int) : Option ProbD :=
  self (.l1)
def lineQ_m (cells_ symbols_ kd st oth lo hi : Int) (rn : List Int) (rl spt : Int) : Nat → lineQPt → Option ProbD
  | 0, _ => none
  | n + 1, .l1 => lineQ_l1 n (lineQ_m cells_ symbols_ kd st oth lo hi rn rl spt n) cells_ symbols_ kd st oth lo hi rn rl spt
  | n + 1, .l2 x15 o2_2 o3 => lineQ_l2 n (lineQ_m cells_ symbols_ kd st oth lo hi rn rl spt n) cells_ symbols_ kd st oth lo hi rn rl spt x15 o2_2 o3
  | n + 1, .l3 => lineQ_l3 n (lineQ_m cells_ symbols_ kd st oth lo hi rn rl spt n) cells_ symbols_ kd st oth lo hi rn rl spt
  | n + 1, .l4 o2_2 o3 => lineQ_l4 n (lineQ_m cells_ symbols_ kd st oth lo hi rn rl spt n) cells_ symbols_ kd st oth lo hi rn rl spt o2_2 o3
  | n + 1, .l5 x27 o0_1 o1 o3_3 o4 => lineQ_l5 n (lineQ_m cells_ symbols_ kd st oth lo hi rn rl spt n) cells_ symbols_ kd st oth lo hi rn rl spt x27 o0_1 o1 o3_3 o4
  | n + 1, .l6 x27 o0_1 o1 o3_2 o3_3 o4t2 o5 => lineQ_l6 n (lineQ_m cells_ symbols_ kd st oth lo hi rn rl spt n) cells_ symbols_ kd st oth lo hi rn rl spt x27 o0_1 o1 o3_2 o3_3 o4t2 o5
def lineQ (n : Nat) (cells_ symbols_ kd st oth lo hi : Int) (rn : List Int) (rl spt : Int) : Option ProbD := lineQ_l0 n (lineQ_m cells_ symbols_ kd st oth lo hi rn rl spt n) cells_ symbols_ kd st oth lo hi rn rl spt
/-- What the points stand for. -/
def lineQ_at (n : Nat) (B : Nat) (N : Yard Tryd.prog GG 0) (cells_ symbols_ kd st oth lo hi : Int) (rn : List Int) (rl spt : Int) (r : ProbD) : lineQPt → Prop
  | .l1 => ∀ m0 : Nat, n ≤ m0 → TrK Tryd.prog GG Fence.wide (some B) 0 N (Fin Tryd.prog Tryd.f18 0 (.agg 5 (L1 (probC r))) []) (toN m0 (atNC (bodyC Tryd.f18) 0 [])) ⟨frm 63 [(0, .int .i64 cells_), (5, .ref 0 0), (6, .ref 1 0), (7, .ref 2 0), (14, .int .i64 symbols_), (15, .int .i64 0)], [some (.cells [.int .i64 kd, .nils, .int .i64 st, .int .i64 oth, .int .i64 lo, .int .i64 hi, .ints rn, .int .i64 rl, .int .i64 spt]), some (.cells [.int .i64 0, .int .i64 0, .nils, .nils, .nils]), some (.cells [.int .i64 cells_, .int .i64 symbols_, .nils, .nils, .nils])]⟩
  | .l2 x15 o2_2 o3 => ∀ m0 : Nat, n ≤ m0 → TrK Tryd.prog GG Fence.wide (some B) 0 N (Fin Tryd.prog Tryd.f18 0 (.agg 5 (L1 (probC r))) []) (toN m0 (atNC (bodyC Tryd.f18) 0 [])) ⟨frm 63 [(0, .int .i64 cells_), (5, .ref 0 0), (6, .ref 1 0), (7, .ref 2 0), (14, .int .i64 symbols_), (15, .int .i64 x15)], [some (.cells [.int .i64 kd, .nils, .int .i64 st, .int .i64 oth, .int .i64 lo, .int .i64 hi, .ints rn, .int .i64 rl, .int .i64 spt]), some (.cells [.int .i64 0, .int .i64 0, .nils, .nils, .nils]), some (.cells [.int .i64 cells_, .int .i64 symbols_, .msl 3 1 0 o2_2, .nils, .nils]), some (.ints o3)]⟩
  | .l3 => ∀ m0 : Nat, n ≤ m0 → TrK Tryd.prog GG Fence.wide (some B) 0 N (Fin Tryd.prog Tryd.f18 0 (.agg 5 (L1 (probC r))) []) (toN m0 (atNC (bodyC Tryd.f18) 2 [])) ⟨frm 63 [(0, .int .i64 cells_), (5, .ref 0 0), (6, .ref 1 0), (7, .ref 2 0), (26, .int .i64 cells_), (27, .int .i64 0)], [some (.cells [.int .i64 kd, .nils, .int .i64 st, .int .i64 oth, .int .i64 lo, .int .i64 hi, .ints rn, .int .i64 rl, .int .i64 spt]), some (.cells [.int .i64 0, .int .i64 0, .nils, .nils, .nils]), some (.cells [.int .i64 cells_, .int .i64 symbols_, .nils, .nils, .nils])]⟩
  | .l4 o2_2 o3 => ∀ m0 : Nat, n ≤ m0 → TrK Tryd.prog GG Fence.wide (some B) 0 N (Fin Tryd.prog Tryd.f18 0 (.agg 5 (L1 (probC r))) []) (toN m0 (atNC (bodyC Tryd.f18) 2 [])) ⟨frm 63 [(0, .int .i64 cells_), (5, .ref 0 0), (6, .ref 1 0), (7, .ref 2 0), (26, .int .i64 cells_), (27, .int .i64 0)], [some (.cells [.int .i64 kd, .nils, .int .i64 st, .int .i64 oth, .int .i64 lo, .int .i64 hi, .ints rn, .int .i64 rl, .int .i64 spt]), some (.cells [.int .i64 0, .int .i64 0, .nils, .nils, .nils]), some (.cells [.int .i64 cells_, .int .i64 symbols_, .msl 3 1 0 o2_2, .nils, .nils]), some (.ints o3)]⟩
  | .l5 x27 o0_1 o1 o3_3 o4 => ∀ m0 : Nat, n ≤ m0 → TrK Tryd.prog GG Fence.wide (some B) 0 N (Fin Tryd.prog Tryd.f18 0 (.agg 5 (L1 (probC r))) []) (toN m0 (atNC (bodyC Tryd.f18) 2 [])) ⟨frm 63 [(0, .int .i64 cells_), (5, .ref 0 0), (6, .ref 2 0), (7, .ref 3 0), (26, .int .i64 cells_), (27, .int .i64 x27)], [some (.cells [.int .i64 kd, .msl 1 1 0 o0_1, .int .i64 st, .int .i64 oth, .int .i64 lo, .int .i64 hi, .ints rn, .int .i64 rl, .int .i64 spt]), some (.ints o1), some (.cells [.int .i64 0, .int .i64 0, .nils, .nils, .nils]), some (.cells [.int .i64 cells_, .int .i64 symbols_, .nils, .msl 4 1 0 o3_3, .nils]), some (.arr 1 o4.length (rowE intsC o4))]⟩
  | .l6 x27 o0_1 o1 o3_2 o3_3 o4t2 o5 => ∀ m0 : Nat, n ≤ m0 → TrK Tryd.prog GG Fence.wide (some B) 0 N (Fin Tryd.prog Tryd.f18 0 (.agg 5 (L1 (probC r))) []) (toN m0 (atNC (bodyC Tryd.f18) 2 [])) ⟨frm 63 [(0, .int .i64 cells_), (5, .ref 0 0), (6, .ref 2 0), (7, .ref 3 0), (26, .int .i64 cells_), (27, .int .i64 x27)], [some (.cells [.int .i64 kd, .msl 1 1 0 o0_1, .int .i64 st, .int .i64 oth, .int .i64 lo, .int .i64 hi, .ints rn, .int .i64 rl, .int .i64 spt]), some (.ints o1), some (.cells [.int .i64 0, .int .i64 0, .nils, .nils, .nils]), some (.cells [.int .i64 cells_, .int .i64 symbols_, .msl 4 1 0 o3_2, .msl 5 1 0 o3_3, .nils]), some (.ints o4t2), some (.arr 1 o5.length (rowE intsC o5))]⟩
set_option maxRecDepth 100000 in
set_option maxHeartbeats 4000000 in
theorem lineQ_p1 (n B : Nat) (N : Yard Tryd.prog GG 0) (self : lineQPt → Option ProbD) (cells_ symbols_ kd st oth lo hi : Int) (rn : List Int) (rl spt : Int) (hself : ∀ pt r, self pt = some r → lineQ_at n B N cells_ symbols_ kd st oth lo hi rn rl spt r pt) (r : ProbD) (h : lineQ_l1 n self cells_ symbols_ kd st oth lo hi rn rl spt = some r) : lineQ_at (n + 1) B N cells_ symbols_ kd st oth lo hi rn rl spt r (.l1) := by
  have hX : HX Fence.wide Tryd.prog := ⟨FOk.wide, by kernel_rfl⟩
  intro m0 hm0
  refine TrK.round hm0 (by kernel_rfl) fun m0 hm0 => ?_
  unfold lineQ_l1 at h
  rcases bifSome h with ⟨c0, h⟩ | ⟨c0, h⟩
  · exact TrK.g hX sch_lineQ 17 [0, 5, 6, 7, 14, 15] [0, 1, 2, 4] [] (.o 16 (DLe.bool c0) <| .g (by decide : (0 = 0 ∧ 1 = ([1] : List Int).length) ∧ 0 < ([1] : List Int).length ∧ ([1] : List Int).length ≤ LIM) <| .g trivial <| .e) (hself (.l2 1 (([1] : List Int).length) ([1] : List Int)) r h m0 hm0) (by kernel_rfl) (by kernel_rfl)
  · exact TrK.g hX sch_lineQ 14 [0, 5, 6, 7, 26, 27] [0, 1, 2] [] (.o 16 (DLe.bool c0) <| .e) (TrK.enter n (by kernel_rfl) (hself (.l3) r h n (Nat.le_refl _))) (by kernel_rfl) (by kernel_rfl)
set_option maxRecDepth 100000 in
set_option maxHeartbeats 4000000 in
theorem lineQ_p2 (n B : Nat) (N : Yard Tryd.prog GG 0) (self : lineQPt → Option ProbD) (cells_ symbols_ kd st oth lo hi : Int) (rn : List Int) (rl spt : Int) (hself : ∀ pt r, self pt = some r → lineQ_at n B N cells_ symbols_ kd st oth lo hi rn rl spt r pt) (x15 : Int) (o2_2 : Nat) (o3 : List Int) (r : ProbD) (h : lineQ_l2 n self cells_ symbols_ kd st oth lo hi rn rl spt x15 o2_2 o3 = some r) : lineQ_at (n + 1) B N cells_ symbols_ kd st oth lo hi rn rl spt r (.l2 x15 o2_2 o3) := by
  have hX : HX Fence.wide Tryd.prog := ⟨FOk.wide, by kernel_rfl⟩
  intro m0 hm0
  refine TrK.round hm0 (by kernel_rfl) fun m0 hm0 => ?_
  unfold lineQ_l2 at h
  rcases bifSome h with ⟨c0, h⟩ | ⟨c0, h⟩
  · obtain ⟨⟨g0, g1⟩, h⟩ := guardSome h
    exact TrK.g hX sch_lineQ 17 [0, 5, 6, 7, 14, 15] [0, 1, 2, 5] [] (.o 16 (DLe.bool c0) <| .o 21 (wr64 g0) <| .g g1 <| .g trivial <| .o 25 (wr64 g0) <| .e) (hself (.l2 (x15 + 1) (o3.length + ([(x15 + 1)] : List Int).length) (o3 ++ ([(x15 + 1)] : List Int))) r h m0 hm0) (by kernel_rfl) (by kernel_rfl)
  · exact TrK.g hX sch_lineQ 14 [0, 5, 6, 7, 26, 27] [0, 1, 2, 3] [] (.o 16 (DLe.bool c0) <| .e) (TrK.enter n (by kernel_rfl) (hself (.l4 o2_2 o3) r h n (Nat.le_refl _))) (by kernel_rfl) (by kernel_rfl)
set_option maxRecDepth 100000 in
set_option maxHeartbeats 4000000 in
theorem lineQ_p3 (n B : Nat) (N : Yard Tryd.prog GG 0) (self : lineQPt → Option ProbD) (cells_ symbols_ kd st oth lo hi : Int) (rn : List Int) (rl spt : Int) (hself : ∀ pt r, self pt = some r → lineQ_at n B N cells_ symbols_ kd st oth lo hi rn rl spt r pt) (r : ProbD) (h : lineQ_l3 n self cells_ symbols_ kd st oth lo hi rn rl spt = some r) : lineQ_at (n + 1) B N cells_ symbols_ kd st oth lo hi rn rl spt r (.l3) := by
  have hX : HX Fence.wide Tryd.prog := ⟨FOk.wide, by kernel_rfl⟩
  intro m0 hm0
  refine TrK.round hm0 (by kernel_rfl) fun m0 hm0 => ?_
  unfold lineQ_l3 at h
  rcases bifSome h with ⟨c0, h⟩ | ⟨c0, h⟩
  · rcases bifSome h with ⟨c1, h⟩ | ⟨c1, h⟩
    · refine TrK.gS hX (stopAt 15 sch_lineQ) 27 [0, 5, 6, 7, 9, 10, 26, 27] [0, 1, 2, 4] [] (.o 28 (DLe.bool c0) <| .o 40 (DLe.bool c1) <| .g (by decide : (0 = 0 ∧ 1 = ([1] : List Int).length) ∧ 0 < ([1] : List Int).length ∧ ([1] : List Int).length ≤ LIM) <| .e) [3] (.g (Eq.refl (([1] : List Int).length)) <| .e) (atGC (bodyC Tryd.f18) 15 [m0]) (frm 63 [(0, .int .i64 cells_), (5, .ref 0 0), (6, .ref 1 0), (7, .ref 2 0), (9, .int .i64 0), (10, .ints ([1] : List Int)), (26, .int .i64 cells_), (27, .int .i64 0)]) (hp_lineQ_0 kd st oth lo hi rn rl spt cells_ symbols_) (by kernel_rfl) (by kernel_rfl) ?_
      exact TrK.g hX sch_lineQ 9 [0, 5, 6, 7, 26, 27] [0, 7, 1, 2, 5] [] (.a 49 4 1 (rows_build (c := intsC) (L := ([([1] : List Int)] : List (List Int))) (vals := [.ints ([1] : List Int)]) rfl ⟨⟨_, rfl, ⟨dle_refl, trivial⟩⟩, trivial⟩) <| .g (And.intro (And.intro (And.intro (Eq.refl 0) (by decide : 1 = ([([1] : List Int)] : List (List Int)).length)) (oneR intsC ([([1] : List Int)] : List (List Int)) (([([1] : List Int)] : List (List Int)).length) 1 fun _ => ⟨rfl, rfl⟩)) (And.intro (by decide : 0 < ([([1] : List Int)] : List (List Int)).length) (by decide : ([([1] : List Int)] : List (List Int)).length ≤ LIM))) <| .g trivial <| .g (by decide : (0 = 0 ∧ 1 = ([0] : List Int).length) ∧ 0 < ([0] : List Int).length ∧ ([0] : List Int).length ≤ LIM) <| .g trivial <| .e) (hself (.l5 1 (([0] : List Int).length) ([0] : List Int) (([([1] : List Int)] : List (List Int)).length) ([([1] : List Int)] : List (List Int))) r h m0 hm0) (by kernel_rfl) (by kernel_rfl)
    · exact TrK.g hX sch_lineQ 31 [0, 5, 6, 7, 26, 27] [0, 6, 1, 2, 4] [] (.o 28 (DLe.bool c0) <| .o 40 (DLe.bool c1) <| .a 49 3 1 (rows_build (c := intsC) (L := ([([] : List Int)] : List (List Int))) (vals := [.nils]) rfl ⟨⟨_, rfl, ⟨DLe.ints_nil, trivial⟩⟩, trivial⟩) <| .g (And.intro (And.intro (And.intro (Eq.refl 0) (by decide : 1 = ([([] : List Int)] : List (List Int)).length)) (oneR intsC ([([] : List Int)] : List (List Int)) (([([] : List Int)] : List (List Int)).length) 1 fun _ => ⟨rfl, rfl⟩)) (And.intro (by decide : 0 < ([([] : List Int)] : List (List Int)).length) (by decide : ([([] : List Int)] : List (List Int)).length ≤ LIM))) <| .g trivial <| .g (by decide : (0 = 0 ∧ 1 = ([0] : List Int).length) ∧ 0 < ([0] : List Int).length ∧ ([0] : List Int).length ≤ LIM) <| .g trivial <| .e) (hself (.l5 1 (([0] : List Int).length) ([0] : List Int) (([([] : List Int)] : List (List Int)).length) ([([] : List Int)] : List (List Int))) r h m0 hm0) (by kernel_rfl) (by kernel_rfl)
  · cases h
    exact TrK.el hX sch_lineQ 14 [6] [1, 3] [] (.o 28 (DLe.bool c0) <| .a 60 3 9 (rows_build (c := consC) (L := ([(⟨kd, ([] : List Int), st, oth, lo, hi, rn, rl, spt⟩ : ConsD)] : List ConsD)) (vals := [.agg 9 (L1 [.int .i64 kd, .nils, .int .i64 st, .int .i64 oth, .int .i64 lo, .int .i64 hi, .ints rn, .int .i64 rl, .int .i64 spt])]) rfl ⟨⟨_, rfl, ⟨dle_refl, DLe.ints_nil, dle_refl, dle_refl, dle_refl, dle_refl, dle_refl, dle_refl, dle_refl, trivial⟩⟩, trivial⟩) <| .g trivial <| .g trivial <| .e) [1] (.g (Eq.refl 1) <| .e) [.agg 5 (L1 [.int .i64 cells_, .int .i64 symbols_, .nils, .nils, .sl 9 (([(⟨kd, ([] : List Int), st, oth, lo, hi, rn, rl, spt⟩ : ConsD)] : List ConsD).length) (rowE consC ([(⟨kd, ([] : List Int), st, oth, lo, hi, rn, rl, spt⟩ : ConsD)] : List ConsD))])] (DLe.aggL (l := [.int .i64 cells_, .int .i64 symbols_, .nils, .nils, .sl 9 (([(⟨kd, ([] : List Int), st, oth, lo, hi, rn, rl, spt⟩ : ConsD)] : List ConsD).length) (rowE consC ([(⟨kd, ([] : List Int), st, oth, lo, hi, rn, rl, spt⟩ : ConsD)] : List ConsD))]) (l' := [.int .i64 cells_, .int .i64 symbols_, .ints ([] : List Int), .sl 1 (([] : List (List Int)).length) (rowE intsC ([] : List (List Int))), .sl 9 (([(⟨kd, ([] : List Int), st, oth, lo, hi, rn, rl, spt⟩ : ConsD)] : List ConsD).length) (rowE consC ([(⟨kd, ([] : List Int), st, oth, lo, hi, rn, rl, spt⟩ : ConsD)] : List ConsD))]) rfl ⟨(DLe.refl _), (DLe.refl _), DLe.ints_nil, (DLe.sl_nil _ _), (DLe.refl _), trivial⟩) (by kernel_rfl)
set_option maxRecDepth 100000 in
set_option maxHeartbeats 4000000 in
theorem lineQ_p4 (n B : Nat) (N : Yard Tryd.prog GG 0) (self : lineQPt → Option ProbD) (cells_ symbols_ kd st oth lo hi : Int) (rn : List Int) (rl spt : Int) (hself : ∀ pt r, self pt = some r → lineQ_at n B N cells_ symbols_ kd st oth lo hi rn rl spt r pt) (o2_2 : Nat) (o3 : List Int) (r : ProbD) (h : lineQ_l4 n self cells_ symbols_ kd st oth lo hi rn rl spt o2_2 o3 = some r) : lineQ_at (n + 1) B N cells_ symbols_ kd st oth lo hi rn rl spt r (.l4 o2_2 o3) := by
  have hX : HX Fence.wide Tryd.prog := ⟨FOk.wide, by kernel_rfl⟩
  intro m0 hm0
  refine TrK.round hm0 (by kernel_rfl) fun m0 hm0 => ?_
  unfold lineQ_l4 at h
  rcases bifSome h with ⟨c0, h⟩ | ⟨c0, h⟩
  · rcases bifSome h with ⟨c1, h⟩ | ⟨c1, h⟩
    · refine TrK.gS hX (stopAt 15 sch_lineQ) 27 [0, 5, 6, 7, 9, 10, 26, 27] [0, 1, 2, 3, 5] [] (.o 28 (DLe.bool c0) <| .o 40 (DLe.bool c1) <| .g (by decide : (0 = 0 ∧ 1 = ([1] : List Int).length) ∧ 0 < ([1] : List Int).length ∧ ([1] : List Int).length ≤ LIM) <| .e) [4] (.g (Eq.refl (([1] : List Int).length)) <| .e) (atGC (bodyC Tryd.f18) 15 [m0]) (frm 63 [(0, .int .i64 cells_), (5, .ref 0 0), (6, .ref 1 0), (7, .ref 2 0), (9, .int .i64 0), (10, .ints ([1] : List Int)), (26, .int .i64 cells_), (27, .int .i64 0)]) (hp_lineQ_1 kd st oth lo hi rn rl spt cells_ symbols_ o2_2 o3) (by kernel_rfl) (by kernel_rfl) ?_
      exact TrK.g hX sch_lineQ 9 [0, 5, 6, 7, 26, 27] [0, 8, 1, 2, 3, 6] [] (.a 49 5 1 (rows_build (c := intsC) (L := ([([1] : List Int)] : List (List Int))) (vals := [.ints ([1] : List Int)]) rfl ⟨⟨_, rfl, ⟨dle_refl, trivial⟩⟩, trivial⟩) <| .g (And.intro (And.intro (And.intro (Eq.refl 0) (by decide : 1 = ([([1] : List Int)] : List (List Int)).length)) (oneR intsC ([([1] : List Int)] : List (List Int)) (([([1] : List Int)] : List (List Int)).length) 1 fun _ => ⟨rfl, rfl⟩)) (And.intro (by decide : 0 < ([([1] : List Int)] : List (List Int)).length) (by decide : ([([1] : List Int)] : List (List Int)).length ≤ LIM))) <| .g trivial <| .g (by decide : (0 = 0 ∧ 1 = ([0] : List Int).length) ∧ 0 < ([0] : List Int).length ∧ ([0] : List Int).length ≤ LIM) <| .g trivial <| .e) (hself (.l6 1 (([0] : List Int).length) ([0] : List Int) o2_2 (([([1] : List Int)] : List (List Int)).length) o3 ([([1] : List Int)] : List (List Int))) r h m0 hm0) (by kernel_rfl) (by kernel_rfl)
    · exact TrK.g hX sch_lineQ 31 [0, 5, 6, 7, 26, 27] [0, 7, 1, 2, 3, 5] [] (.o 28 (DLe.bool c0) <| .o 40 (DLe.bool c1) <| .a 49 4 1 (rows_build (c := intsC) (L := ([([] : List Int)] : List (List Int))) (vals := [.nils]) rfl ⟨⟨_, rfl, ⟨DLe.ints_nil, trivial⟩⟩, trivial⟩) <| .g (And.intro (And.intro (And.intro (Eq.refl 0) (by decide : 1 = ([([] : List Int)] : List (List Int)).length)) (oneR intsC ([([] : List Int)] : List (List Int)) (([([] : List Int)] : List (List Int)).length) 1 fun _ => ⟨rfl, rfl⟩)) (And.intro (by decide : 0 < ([([] : List Int)] : List (List Int)).length) (by decide : ([([] : List Int)] : List (List Int)).length ≤ LIM))) <| .g trivial <| .g (by decide : (0 = 0 ∧ 1 = ([0] : List Int).length) ∧ 0 < ([0] : List Int).length ∧ ([0] : List Int).length ≤ LIM) <| .g trivial <| .e) (hself (.l6 1 (([0] : List Int).length) ([0] : List Int) o2_2 (([([] : List Int)] : List (List Int)).length) o3 ([([] : List Int)] : List (List Int))) r h m0 hm0) (by kernel_rfl) (by kernel_rfl)
  · obtain ⟨g0, h⟩ := guardSome h
    cases h
    exact TrK.el hX sch_lineQ 14 [6] [1, 3, 4] [] (.o 28 (DLe.bool c0) <| .a 60 4 9 (rows_build (c := consC) (L := ([(⟨kd, ([] : List Int), st, oth, lo, hi, rn, rl, spt⟩ : ConsD)] : List ConsD)) (vals := [.agg 9 (L1 [.int .i64 kd, .nils, .int .i64 st, .int .i64 oth, .int .i64 lo, .int .i64 hi, .ints rn, .int .i64 rl, .int .i64 spt])]) rfl ⟨⟨_, rfl, ⟨dle_refl, DLe.ints_nil, dle_refl, dle_refl, dle_refl, dle_refl, dle_refl, dle_refl, dle_refl, trivial⟩⟩, trivial⟩) <| .g trivial <| .g trivial <| .e) [1, 2] (.g g0 <| .g (Eq.refl 1) <| .e) [.agg 5 (L1 [.int .i64 cells_, .int .i64 symbols_, .ints o3, .nils, .sl 9 (([(⟨kd, ([] : List Int), st, oth, lo, hi, rn, rl, spt⟩ : ConsD)] : List ConsD).length) (rowE consC ([(⟨kd, ([] : List Int), st, oth, lo, hi, rn, rl, spt⟩ : ConsD)] : List ConsD))])] (DLe.aggL (l := [.int .i64 cells_, .int .i64 symbols_, .ints o3, .nils, .sl 9 (([(⟨kd, ([] : List Int), st, oth, lo, hi, rn, rl, spt⟩ : ConsD)] : List ConsD).length) (rowE consC ([(⟨kd, ([] : List Int), st, oth, lo, hi, rn, rl, spt⟩ : ConsD)] : List ConsD))]) (l' := [.int .i64 cells_, .int .i64 symbols_, .ints o3, .sl 1 (([] : List (List Int)).length) (rowE intsC ([] : List (List Int))), .sl 9 (([(⟨kd, ([] : List Int), st, oth, lo, hi, rn, rl, spt⟩ : ConsD)] : List ConsD).length) (rowE consC ([(⟨kd, ([] : List Int), st, oth, lo, hi, rn, rl, spt⟩ : ConsD)] : List ConsD))]) rfl ⟨(DLe.refl _), (DLe.refl _), (DLe.refl _), (DLe.sl_nil _ _), (DLe.refl _), trivial⟩) (by kernel_rfl)
set_option maxRecDepth 100000 in
set_option maxHeartbeats 4000000 in
theorem lineQ_p5 (n B : Nat) (N : Yard Tryd.prog GG 0) (self : lineQPt → Option ProbD) (cells_ symbols_ kd st oth lo hi : Int) (rn : List Int) (rl spt : Int) (hself : ∀ pt r, self pt = some r → lineQ_at n B N cells_ symbols_ kd st oth lo hi rn rl spt r pt) (x27 : Int) (o0_1 : Nat) (o1 : List Int) (o3_3 : Nat) (o4 : List (List Int)) (r : ProbD) (h : lineQ_l5 n self cells_ symbols_ kd st oth lo hi rn rl spt x27 o0_1 o1 o3_3 o4 = some r) : lineQ_at (n + 1) B N cells_ symbols_ kd st oth lo hi rn rl spt r (.l5 x27 o0_1 o1 o3_3 o4) := by
  have hX : HX Fence.wide Tryd.prog := ⟨FOk.wide, by kernel_rfl⟩
  intro m0 hm0
  refine TrK.round hm0 (by kernel_rfl) fun m0 hm0 => ?_
  unfold lineQ_l5 at h
  rcases bifSome h with ⟨c0, h⟩ | ⟨c0, h⟩
  · rcases bifSome h with ⟨c1, h⟩ | ⟨c1, h⟩
    · obtain ⟨⟨g0, g1, g2⟩, h⟩ := guardSome h
      rcases bifSome h with ⟨c2, h⟩ | ⟨c2, h⟩
      · obtain ⟨g3, h⟩ := guardSome h
        obtain ⟨g4, h⟩ := guardSome h
        refine TrK.gS hX (stopAt 15 sch_lineQ) 27 [0, 5, 6, 7, 9, 10, 26, 27] [0, 1, 2, 3, 4, 8] [] (.o 28 (DLe.bool c0) <| .o 31 (DLe.bool c1) <| .o 34 (wr64 g0) <| .g g1 <| .o 38 (wr64 g2) <| .o 40 (DLe.bool c2) <| .o 43 (wr64 g2) <| .g g3 <| .e) [5] (.g g4 <| .e) (atGC (bodyC Tryd.f18) 15 [m0]) (frm 63 [(0, .int .i64 cells_), (5, .ref 0 0), (6, .ref 2 0), (7, .ref 3 0), (9, .int .i64 x27), (10, .ints (([(x27 - 1)] : List Int) ++ ([(x27 + 1)] : List Int))), (26, .int .i64 cells_), (27, .int .i64 x27)]) (hp_lineQ_2 kd o0_1 st oth lo hi rn rl spt o1 cells_ symbols_ o3_3 o4) (by kernel_rfl) (by kernel_rfl) ?_
        obtain ⟨⟨g5, g6, g7, g8⟩, h⟩ := guardSome h
        exact TrK.g hX sch_lineQ 9 [0, 5, 6, 7, 26, 27] [0, 9, 2, 3, 7] [] (.a 49 6 1 (rows_build (c := intsC) (L := ([([(x27 - 1)] : List Int) ++ ([(x27 + 1)] : List Int)] : List (List Int))) (vals := [.ints (([(x27 - 1)] : List Int) ++ ([(x27 + 1)] : List Int))]) rfl ⟨⟨_, rfl, ⟨dle_refl, trivial⟩⟩, trivial⟩) <| .g (And.intro (And.intro (And.intro (Eq.refl 0) (Eq.refl 1)) (oneR intsC ([([(x27 - 1)] : List Int) ++ ([(x27 + 1)] : List Int)] : List (List Int)) (([([(x27 - 1)] : List Int) ++ ([(x27 + 1)] : List Int)] : List (List Int)).length) 1 fun _ => ⟨rfl, rfl⟩)) (And.intro (And.intro (Eq.refl 0) g5) g6)) <| .a 50 7 1 (rows_app (enc := (encE intsC)) (L := o4) (L' := ([([(x27 - 1)] : List Int) ++ ([(x27 + 1)] : List Int)] : List (List Int))) rfl rfl fun _ _ _ _ => dle_refl) <| .g trivial <| .g g7 <| .g trivial <| .o 58 (wr64 g8) <| .e) (hself (.l5 (x27 + 1) (o1.length + ([x27] : List Int).length) (o1 ++ ([x27] : List Int)) (o4.length + ([([(x27 - 1)] : List Int) ++ ([(x27 + 1)] : List Int)] : List (List Int)).length) (o4 ++ ([([(x27 - 1)] : List Int) ++ ([(x27 + 1)] : List Int)] : List (List Int)))) r h m0 hm0) (by kernel_rfl) (by kernel_rfl)
      · refine TrK.gS hX (stopAt 15 sch_lineQ) 27 [0, 5, 6, 7, 9, 10, 26, 27] [0, 1, 2, 3, 4, 6] [] (.o 28 (DLe.bool c0) <| .o 31 (DLe.bool c1) <| .o 34 (wr64 g0) <| .g g1 <| .o 38 (wr64 g2) <| .o 40 (DLe.bool c2) <| .e) [5] (.g (Eq.refl (([(x27 - 1)] : List Int).length)) <| .e) (atGC (bodyC Tryd.f18) 15 [m0]) (frm 63 [(0, .int .i64 cells_), (5, .ref 0 0), (6, .ref 2 0), (7, .ref 3 0), (9, .int .i64 x27), (10, .ints ([(x27 - 1)] : List Int)), (26, .int .i64 cells_), (27, .int .i64 x27)]) (hp_lineQ_2 kd o0_1 st oth lo hi rn rl spt o1 cells_ symbols_ o3_3 o4) (by kernel_rfl) (by kernel_rfl) ?_
        obtain ⟨⟨g3, g4, g5, g6⟩, h⟩ := guardSome h
        exact TrK.g hX sch_lineQ 9 [0, 5, 6, 7, 26, 27] [0, 9, 2, 3, 7] [] (.a 49 6 1 (rows_build (c := intsC) (L := ([([(x27 - 1)] : List Int)] : List (List Int))) (vals := [.ints ([(x27 - 1)] : List Int)]) rfl ⟨⟨_, rfl, ⟨dle_refl, trivial⟩⟩, trivial⟩) <| .g (And.intro (And.intro (And.intro (Eq.refl 0) (Eq.refl 1)) (oneR intsC ([([(x27 - 1)] : List Int)] : List (List Int)) (([([(x27 - 1)] : List Int)] : List (List Int)).length) 1 fun _ => ⟨rfl, rfl⟩)) (And.intro (And.intro (Eq.refl 0) g3) g4)) <| .a 50 7 1 (rows_app (enc := (encE intsC)) (L := o4) (L' := ([([(x27 - 1)] : List Int)] : List (List Int))) rfl rfl fun _ _ _ _ => dle_refl) <| .g trivial <| .g g5 <| .g trivial <| .o 58 (wr64 g6) <| .e) (hself (.l5 (x27 + 1) (o1.length + ([x27] : List Int).length) (o1 ++ ([x27] : List Int)) (o4.length + ([([(x27 - 1)] : List Int)] : List (List Int)).length) (o4 ++ ([([(x27 - 1)] : List Int)] : List (List Int)))) r h m0 hm0) (by kernel_rfl) (by kernel_rfl)
    · obtain ⟨g0, h⟩ := guardSome h
      rcases bifSome h with ⟨c2, h⟩ | ⟨c2, h⟩
      · obtain ⟨g1, h⟩ := guardSome h
        refine TrK.gS hX (stopAt 15 sch_lineQ) 27 [0, 5, 6, 7, 9, 10, 26, 27] [0, 1, 2, 3, 4, 6] [] (.o 28 (DLe.bool c0) <| .o 31 (DLe.bool c1) <| .o 38 (wr64 g0) <| .o 40 (DLe.bool c2) <| .o 43 (wr64 g0) <| .g g1 <| .e) [5] (.g (Eq.refl (([(x27 + 1)] : List Int).length)) <| .e) (atGC (bodyC Tryd.f18) 15 [m0]) (frm 63 [(0, .int .i64 cells_), (5, .ref 0 0), (6, .ref 2 0), (7, .ref 3 0), (9, .int .i64 x27), (10, .ints ([(x27 + 1)] : List Int)), (26, .int .i64 cells_), (27, .int .i64 x27)]) (hp_lineQ_2 kd o0_1 st oth lo hi rn rl spt o1 cells_ symbols_ o3_3 o4) (by kernel_rfl) (by kernel_rfl) ?_
        obtain ⟨⟨g2, g3, g4, g5⟩, h⟩ := guardSome h
        exact TrK.g hX sch_lineQ 9 [0, 5, 6, 7, 26, 27] [0, 9, 2, 3, 7] [] (.a 49 6 1 (rows_build (c := intsC) (L := ([([(x27 + 1)] : List Int)] : List (List Int))) (vals := [.ints ([(x27 + 1)] : List Int)]) rfl ⟨⟨_, rfl, ⟨dle_refl, trivial⟩⟩, trivial⟩) <| .g (And.intro (And.intro (And.intro (Eq.refl 0) (Eq.refl 1)) (oneR intsC ([([(x27 + 1)] : List Int)] : List (List Int)) (([([(x27 + 1)] : List Int)] : List (List Int)).length) 1 fun _ => ⟨rfl, rfl⟩)) (And.intro (And.intro (Eq.refl 0) g2) g3)) <| .a 50 7 1 (rows_app (enc := (encE intsC)) (L := o4) (L' := ([([(x27 + 1)] : List Int)] : List (List Int))) rfl rfl fun _ _ _ _ => dle_refl) <| .g trivial <| .g g4 <| .g trivial <| .o 58 (wr64 g5) <| .e) (hself (.l5 (x27 + 1) (o1.length + ([x27] : List Int).length) (o1 ++ ([x27] : List Int)) (o4.length + ([([(x27 + 1)] : List Int)] : List (List Int)).length) (o4 ++ ([([(x27 + 1)] : List Int)] : List (List Int)))) r h m0 hm0) (by kernel_rfl) (by kernel_rfl)
      · obtain ⟨⟨g1, g2, g3⟩, h⟩ := guardSome h
        exact TrK.g hX sch_lineQ 31 [0, 5, 6, 7, 26, 27] [0, 8, 2, 3, 6] [] (.o 28 (DLe.bool c0) <| .o 31 (DLe.bool c1) <| .o 38 (wr64 g0) <| .o 40 (DLe.bool c2) <| .a 49 5 1 (rows_build (c := intsC) (L := ([([] : List Int)] : List (List Int))) (vals := [.nils]) rfl ⟨⟨_, rfl, ⟨DLe.ints_nil, trivial⟩⟩, trivial⟩) <| .g (And.intro (And.intro (And.intro (Eq.refl 0) (by decide : 1 = ([([] : List Int)] : List (List Int)).length)) (oneR intsC ([([] : List Int)] : List (List Int)) (([([] : List Int)] : List (List Int)).length) 1 fun _ => ⟨rfl, rfl⟩)) (And.intro (And.intro (Eq.refl 0) g1) g2)) <| .a 50 6 1 (rows_app (enc := (encE intsC)) (L := o4) (L' := ([([] : List Int)] : List (List Int))) rfl rfl fun _ _ _ _ => dle_refl) <| .g trivial <| .g g3 <| .g trivial <| .o 58 (wr64 g0) <| .e) (hself (.l5 (x27 + 1) (o1.length + ([x27] : List Int).length) (o1 ++ ([x27] : List Int)) (o4.length + ([([] : List Int)] : List (List Int)).length) (o4 ++ ([([] : List Int)] : List (List Int)))) r h m0 hm0) (by kernel_rfl) (by kernel_rfl)
  · obtain ⟨g0, h⟩ := guardSome h
    refine TrK.gS hX (stopAt 18 sch_lineQ) 11 [5, 6, 7] [0, 1, 2, 3, 4] [] (.o 28 (DLe.bool c0) <| .e) [1] (.g g0 <| .e) (atGC (bodyC Tryd.f18) 18 []) (frm 63 [(5, .ref 0 0), (6, .ref 2 0), (7, .ref 3 0)]) (hp_lineQ_3 kd o1 st oth lo hi rn rl spt cells_ symbols_ o3_3 o4) (by kernel_rfl) (by kernel_rfl) ?_
    obtain ⟨g1, h⟩ := guardSome h
    cases h
    exact TrK.el hX sch_lineQ 8 [6] [2, 4, 5] [] (.a 60 5 9 (rows_build (c := consC) (L := ([(⟨kd, o1, st, oth, lo, hi, rn, rl, spt⟩ : ConsD)] : List ConsD)) (vals := [.agg 9 (L1 [.int .i64 kd, .ints o1, .int .i64 st, .int .i64 oth, .int .i64 lo, .int .i64 hi, .ints rn, .int .i64 rl, .int .i64 spt])]) rfl ⟨⟨_, rfl, ⟨dle_refl, dle_refl, dle_refl, dle_refl, dle_refl, dle_refl, dle_refl, dle_refl, dle_refl, trivial⟩⟩, trivial⟩) <| .g trivial <| .g trivial <| .e) [1, 2] (.g g1 <| .g (Eq.refl 1) <| .e) [.agg 5 (L1 [.int .i64 cells_, .int .i64 symbols_, .nils, .sl 1 o4.length (rowE intsC o4), .sl 9 (([(⟨kd, o1, st, oth, lo, hi, rn, rl, spt⟩ : ConsD)] : List ConsD).length) (rowE consC ([(⟨kd, o1, st, oth, lo, hi, rn, rl, spt⟩ : ConsD)] : List ConsD))])] (DLe.aggL (l := [.int .i64 cells_, .int .i64 symbols_, .nils, .sl 1 o4.length (rowE intsC o4), .sl 9 (([(⟨kd, o1, st, oth, lo, hi, rn, rl, spt⟩ : ConsD)] : List ConsD).length) (rowE consC ([(⟨kd, o1, st, oth, lo, hi, rn, rl, spt⟩ : ConsD)] : List ConsD))]) (l' := [.int .i64 cells_, .int .i64 symbols_, .ints ([] : List Int), .sl 1 o4.length (rowE intsC o4), .sl 9 (([(⟨kd, o1, st, oth, lo, hi, rn, rl, spt⟩ : ConsD)] : List ConsD).length) (rowE consC ([(⟨kd, o1, st, oth, lo, hi, rn, rl, spt⟩ : ConsD)] : List ConsD))]) rfl ⟨(DLe.refl _), (DLe.refl _), DLe.ints_nil, (DLe.refl _), (DLe.refl _), trivial⟩) (by kernel_rfl)
set_option maxRecDepth 100000 in
set_option maxHeartbeats 4000000 in
theorem lineQ_p6 (n B : Nat) (N : Yard Tryd.prog GG 0) (self : lineQPt → Option ProbD) (cells_ symbols_ kd st oth lo hi : Int) (rn : List Int) (rl spt : Int) (hself : ∀ pt r, self pt = some r → lineQ_at n B N cells_ symbols_ kd st oth lo hi rn rl spt r pt) (x27 : Int) (o0_1 : Nat) (o1 : List Int) (o3_2 o3_3 : Nat) (o4t2 : List Int) (o5 : List (List Int)) (r : ProbD) (h : lineQ_l6 n self cells_ symbols_ kd st oth lo hi rn rl spt x27 o0_1 o1 o3_2 o3_3 o4t2 o5 = some r) : lineQ_at (n + 1) B N cells_ symbols_ kd st oth lo hi rn rl spt r (.l6 x27 o0_1 o1 o3_2 o3_3 o4t2 o5) := by
  have hX : HX Fence.wide Tryd.prog := ⟨FOk.wide, by kernel_rfl⟩
  intro m0 hm0
  refine TrK.round hm0 (by kernel_rfl) fun m0 hm0 => ?_
  unfold lineQ_l6 at h
  rcases bifSome h with ⟨c0, h⟩ | ⟨c0, h⟩
  · rcases bifSome h with ⟨c1, h⟩ | ⟨c1, h⟩
    · obtain ⟨⟨g0, g1, g2⟩, h⟩ := guardSome h
      rcases bifSome h with ⟨c2, h⟩ | ⟨c2, h⟩
      · obtain ⟨g3, h⟩ := guardSome h
        obtain ⟨g4, h⟩ := guardSome h
        refine TrK.gS hX (stopAt 15 sch_lineQ) 27 [0, 5, 6, 7, 9, 10, 26, 27] [0, 1, 2, 3, 4, 5, 9] [] (.o 28 (DLe.bool c0) <| .o 31 (DLe.bool c1) <| .o 34 (wr64 g0) <| .g g1 <| .o 38 (wr64 g2) <| .o 40 (DLe.bool c2) <| .o 43 (wr64 g2) <| .g g3 <| .e) [6] (.g g4 <| .e) (atGC (bodyC Tryd.f18) 15 [m0]) (frm 63 [(0, .int .i64 cells_), (5, .ref 0 0), (6, .ref 2 0), (7, .ref 3 0), (9, .int .i64 x27), (10, .ints (([(x27 - 1)] : List Int) ++ ([(x27 + 1)] : List Int))), (26, .int .i64 cells_), (27, .int .i64 x27)]) (hp_lineQ_4 kd o0_1 st oth lo hi rn rl spt o1 cells_ symbols_ o3_2 o3_3 o4t2 o5) (by kernel_rfl) (by kernel_rfl) ?_
        obtain ⟨⟨g5, g6, g7, g8⟩, h⟩ := guardSome h
        exact TrK.g hX sch_lineQ 9 [0, 5, 6, 7, 26, 27] [0, 10, 2, 3, 4, 8] [] (.a 49 7 1 (rows_build (c := intsC) (L := ([([(x27 - 1)] : List Int) ++ ([(x27 + 1)] : List Int)] : List (List Int))) (vals := [.ints (([(x27 - 1)] : List Int) ++ ([(x27 + 1)] : List Int))]) rfl ⟨⟨_, rfl, ⟨dle_refl, trivial⟩⟩, trivial⟩) <| .g (And.intro (And.intro (And.intro (Eq.refl 0) (Eq.refl 1)) (oneR intsC ([([(x27 - 1)] : List Int) ++ ([(x27 + 1)] : List Int)] : List (List Int)) (([([(x27 - 1)] : List Int) ++ ([(x27 + 1)] : List Int)] : List (List Int)).length) 1 fun _ => ⟨rfl, rfl⟩)) (And.intro (And.intro (Eq.refl 0) g5) g6)) <| .a 50 8 1 (rows_app (enc := (encE intsC)) (L := o5) (L' := ([([(x27 - 1)] : List Int) ++ ([(x27 + 1)] : List Int)] : List (List Int))) rfl rfl fun _ _ _ _ => dle_refl) <| .g trivial <| .g g7 <| .g trivial <| .o 58 (wr64 g8) <| .e) (hself (.l6 (x27 + 1) (o1.length + ([x27] : List Int).length) (o1 ++ ([x27] : List Int)) o3_2 (o5.length + ([([(x27 - 1)] : List Int) ++ ([(x27 + 1)] : List Int)] : List (List Int)).length) o4t2 (o5 ++ ([([(x27 - 1)] : List Int) ++ ([(x27 + 1)] : List Int)] : List (List Int)))) r h m0 hm0) (by kernel_rfl) (by kernel_rfl)
      · refine TrK.gS hX (stopAt 15 sch_lineQ) 27 [0, 5, 6, 7, 9, 10, 26, 27] [0, 1, 2, 3, 4, 5, 7] [] (.o 28 (DLe.bool c0) <| .o 31 (DLe.bool c1) <| .o 34 (wr64 g0) <| .g g1 <| .o 38 (wr64 g2) <| .o 40 (DLe.bool c2) <| .e) [6] (.g (Eq.refl (([(x27 - 1)] : List Int).length)) <| .e) (atGC (bodyC Tryd.f18) 15 [m0]) (frm 63 [(0, .int .i64 cells_), (5, .ref 0 0), (6, .ref 2 0), (7, .ref 3 0), (9, .int .i64 x27), (10, .ints ([(x27 - 1)] : List Int)), (26, .int .i64 cells_), (27, .int .i64 x27)]) (hp_lineQ_4 kd o0_1 st oth lo hi rn rl spt o1 cells_ symbols_ o3_2 o3_3 o4t2 o5) (by kernel_rfl) (by kernel_rfl) ?_
        obtain ⟨⟨g3, g4, g5, g6⟩, h⟩ := guardSome h
        exact TrK.g hX sch_lineQ 9 [0, 5, 6, 7, 26, 27] [0, 10, 2, 3, 4, 8] [] (.a 49 7 1 (rows_build (c := intsC) (L := ([([(x27 - 1)] : List Int)] : List (List Int))) (vals := [.ints ([(x27 - 1)] : List Int)]) rfl ⟨⟨_, rfl, ⟨dle_refl, trivial⟩⟩, trivial⟩) <| .g (And.intro (And.intro (And.intro (Eq.refl 0) (Eq.refl 1)) (oneR intsC ([([(x27 - 1)] : List Int)] : List (List Int)) (([([(x27 - 1)] : List Int)] : List (List Int)).length) 1 fun _ => ⟨rfl, rfl⟩)) (And.intro (And.intro (Eq.refl 0) g3) g4)) <| .a 50 8 1 (rows_app (enc := (encE intsC)) (L := o5) (L' := ([([(x27 - 1)] : List Int)] : List (List Int))) rfl rfl fun _ _ _ _ => dle_refl) <| .g trivial <| .g g5 <| .g trivial <| .o 58 (wr64 g6) <| .e) (hself (.l6 (x27 + 1) (o1.length + ([x27] : List Int).length) (o1 ++ ([x27] : List Int)) o3_2 (o5.length + ([([(x27 - 1)] : List Int)] : List (List Int)).length) o4t2 (o5 ++ ([([(x27 - 1)] : List Int)] : List (List Int)))) r h m0 hm0) (by kernel_rfl) (by kernel_rfl)
    · obtain ⟨g0, h⟩ := guardSome h
      rcases bifSome h with ⟨c2, h⟩ | ⟨c2, h⟩
      · obtain ⟨g1, h⟩ := guardSome h
        refine TrK.gS hX (stopAt 15 sch_lineQ) 27 [0, 5, 6, 7, 9, 10, 26, 27] [0, 1, 2, 3, 4, 5, 7] [] (.o 28 (DLe.bool c0) <| .o 31 (DLe.bool c1) <| .o 38 (wr64 g0) <| .o 40 (DLe.bool c2) <| .o 43 (wr64 g0) <| .g g1 <| .e) [6] (.g (Eq.refl (([(x27 + 1)] : List Int).length)) <| .e) (atGC (bodyC Tryd.f18) 15 [m0]) (frm 63 [(0, .int .i64 cells_), (5, .ref 0 0), (6, .ref 2 0), (7, .ref 3 0), (9, .int .i64 x27), (10, .ints ([(x27 + 1)] : List Int)), (26, .int .i64 cells_), (27, .int .i64 x27)]) (hp_lineQ_4 kd o0_1 st oth lo hi rn rl spt o1 cells_ symbols_ o3_2 o3_3 o4t2 o5) (by kernel_rfl) (by kernel_rfl) ?_
        obtain ⟨⟨g2, g3, g4, g5⟩, h⟩ := guardSome h
        exact TrK.g hX sch_lineQ 9 [0, 5, 6, 7, 26, 27] [0, 10, 2, 3, 4, 8] [] (.a 49 7 1 (rows_build (c := intsC) (L := ([([(x27 + 1)] : List Int)] : List (List Int))) (vals := [.ints ([(x27 + 1)] : List Int)]) rfl ⟨⟨_, rfl, ⟨dle_refl, trivial⟩⟩, trivial⟩) <| .g (And.intro (And.intro (And.intro (Eq.refl 0) (Eq.refl 1)) (oneR intsC ([([(x27 + 1)] : List Int)] : List (List Int)) (([([(x27 + 1)] : List Int)] : List (List Int)).length) 1 fun _ => ⟨rfl, rfl⟩)) (And.intro (And.intro (Eq.refl 0) g2) g3)) <| .a 50 8 1 (rows_app (enc := (encE intsC)) (L := o5) (L' := ([([(x27 + 1)] : List Int)] : List (List Int))) rfl rfl fun _ _ _ _ => dle_refl) <| .g trivial <| .g g4 <| .g trivial <| .o 58 (wr64 g5) <| .e) (hself (.l6 (x27 + 1) (o1.length + ([x27] : List Int).length) (o1 ++ ([x27] : List Int)) o3_2 (o5.length + ([([(x27 + 1)] : List Int)] : List (List Int)).length) o4t2 (o5 ++ ([([(x27 + 1)] : List Int)] : List (List Int)))) r h m0 hm0) (by kernel_rfl) (by kernel_rfl)
      · obtain ⟨⟨g1, g2, g3⟩, h⟩ := guardSome h
        exact TrK.g hX sch_lineQ 31 [0, 5, 6, 7, 26, 27] [0, 9, 2, 3, 4, 7] [] (.o 28 (DLe.bool c0) <| .o 31 (DLe.bool c1) <| .o 38 (wr64 g0) <| .o 40 (DLe.bool c2) <| .a 49 6 1 (rows_build (c := intsC) (L := ([([] : List Int)] : List (List Int))) (vals := [.nils]) rfl ⟨⟨_, rfl, ⟨DLe.ints_nil, trivial⟩⟩, trivial⟩) <| .g (And.intro (And.intro (And.intro (Eq.refl 0) (by decide : 1 = ([([] : List Int)] : List (List Int)).length)) (oneR intsC ([([] : List Int)] : List (List Int)) (([([] : List Int)] : List (List Int)).length) 1 fun _ => ⟨rfl, rfl⟩)) (And.intro (And.intro (Eq.refl 0) g1) g2)) <| .a 50 7 1 (rows_app (enc := (encE intsC)) (L := o5) (L' := ([([] : List Int)] : List (List Int))) rfl rfl fun _ _ _ _ => dle_refl) <| .g trivial <| .g g3 <| .g trivial <| .o 58 (wr64 g0) <| .e) (hself (.l6 (x27 + 1) (o1.length + ([x27] : List Int).length) (o1 ++ ([x27] : List Int)) o3_2 (o5.length + ([([] : List Int)] : List (List Int)).length) o4t2 (o5 ++ ([([] : List Int)] : List (List Int)))) r h m0 hm0) (by kernel_rfl) (by kernel_rfl)
  · obtain ⟨g0, h⟩ := guardSome h
    refine TrK.gS hX (stopAt 18 sch_lineQ) 11 [5, 6, 7] [0, 1, 2, 3, 4, 5] [] (.o 28 (DLe.bool c0) <| .e) [1] (.g g0 <| .e) (atGC (bodyC Tryd.f18) 18 []) (frm 63 [(5, .ref 0 0), (6, .ref 2 0), (7, .ref 3 0)]) (hp_lineQ_5 kd o1 st oth lo hi rn rl spt cells_ symbols_ o3_2 o3_3 o4t2 o5) (by kernel_rfl) (by kernel_rfl) ?_
    obtain ⟨⟨g1, g2⟩, h⟩ := guardSome h
    cases h
    exact TrK.e hX sch_lineQ 8 [6] [2, 4, 5, 6] [] (.a 60 6 9 (rows_build (c := consC) (L := ([(⟨kd, o1, st, oth, lo, hi, rn, rl, spt⟩ : ConsD)] : List ConsD)) (vals := [.agg 9 (L1 [.int .i64 kd, .ints o1, .int .i64 st, .int .i64 oth, .int .i64 lo, .int .i64 hi, .ints rn, .int .i64 rl, .int .i64 spt])]) rfl ⟨⟨_, rfl, ⟨dle_refl, dle_refl, dle_refl, dle_refl, dle_refl, dle_refl, dle_refl, dle_refl, dle_refl, trivial⟩⟩, trivial⟩) <| .g trivial <| .g trivial <| .e) [1, 2, 3] (.g g1 <| .g g2 <| .g (Eq.refl 1) <| .e) (by kernel_rfl)
theorem lineQ_all (B : Nat) (N : Yard Tryd.prog GG 0) (cells_ symbols_ kd st oth lo hi : Int) (rn : List Int) (rl spt : Int) : ∀ (n : Nat) (pt : lineQPt) (r : ProbD), lineQ_m cells_ symbols_ kd st oth lo hi rn rl spt n pt = some r → lineQ_at n B N cells_ symbols_ kd st oth lo hi rn rl spt r pt
  | 0, _, _, h => by cases h
  | n + 1, .l1, r, h => lineQ_p1 n B N (lineQ_m cells_ symbols_ kd st oth lo hi rn rl spt n) cells_ symbols_ kd st oth lo hi rn rl spt (lineQ_all B N cells_ symbols_ kd st oth lo hi rn rl spt n) r h
  | n + 1, .l2 x15 o2_2 o3, r, h => lineQ_p2 n B N (lineQ_m cells_ symbols_ kd st oth lo hi rn rl spt n) cells_ symbols_ kd st oth lo hi rn rl spt (lineQ_all B N cells_ symbols_ kd st oth lo hi rn rl spt n) x15 o2_2 o3 r h
  | n + 1, .l3, r, h => lineQ_p3 n B N (lineQ_m cells_ symbols_ kd st oth lo hi rn rl spt n) cells_ symbols_ kd st oth lo hi rn rl spt (lineQ_all B N cells_ symbols_ kd st oth lo hi rn rl spt n) r h
  | n + 1, .l4 o2_2 o3, r, h => lineQ_p4 n B N (lineQ_m cells_ symbols_ kd st oth lo hi rn rl spt n) cells_ symbols_ kd st oth lo hi rn rl spt (lineQ_all B N cells_ symbols_ kd st oth lo hi rn rl spt n) o2_2 o3 r h
  | n + 1, .l5 x27 o0_1 o1 o3_3 o4, r, h => lineQ_p5 n B N (lineQ_m cells_ symbols_ kd st oth lo hi rn rl spt n) cells_ symbols_ kd st oth lo hi rn rl spt (lineQ_all B N cells_ symbols_ kd st oth lo hi rn rl spt n) x27 o0_1 o1 o3_3 o4 r h
  | n + 1, .l6 x27 o0_1 o1 o3_2 o3_3 o4t2 o5, r, h => lineQ_p6 n B N (lineQ_m cells_ symbols_ kd st oth lo hi rn rl spt n) cells_ symbols_ kd st oth lo hi rn rl spt (lineQ_all B N cells_ symbols_ kd st oth lo hi rn rl spt n) x27 o0_1 o1 o3_2 o3_3 o4t2 o5 r h
set_option maxRecDepth 100000 in
set_option maxHeartbeats 4000000 in
theorem lineQ_ok {n : Nat} (cells_ symbols_ kd st oth lo hi : Int) (rn : List Int) (rl spt : Int) {r : ProbD} (h : lineQ n cells_ symbols_ kd st oth lo hi rn rl spt = some r) : ES Tryd.prog GG 18 [.int .i64 cells_, .int .i64 symbols_, .agg 9 (L1 [.int .i64 kd, .nils, .int .i64 st, .int .i64 oth, .int .i64 lo, .int .i64 hi, .ints rn, .int .i64 rl, .int .i64 spt])] [] (.agg 5 (L1 (probC r))) [] true := by
  have hX : HX Fence.wide Tryd.prog := ⟨FOk.wide, by kernel_rfl⟩
  refine ES.of_trk Tryd.func18 (by kernel_rfl) (by kernel_rfl) noIter_nil (fun _ => rfl) fun B N => ?_
  have hself := lineQ_all B N cells_ symbols_ kd st oth lo hi rn rl spt n
  unfold lineQ at h
  generalize lineQ_m cells_ symbols_ kd st oth lo hi rn rl spt n = self at h hself
  unfold lineQ_l0 at h
  exact TrK.g hX sch_lineQ 13 [0, 5, 6, 7, 14, 15] [0, 1, 2] [] (.g trivial <| .e) (TrK.enter n (by kernel_rfl) (hself (.l1) r h n (Nat.le_refl _))) (by kernel_rfl) (by kernel_rfl)


end Go.Proofs.YtekkngkphejfcaaDoor
