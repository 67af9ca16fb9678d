/- Functions read off the code: pruning: RunsC. -/
import Derived.Test.YtekkngkphejfcaaDoorDloop
import Derived.Test.YtekkngkphejfcaaDoorHl
namespace Go.Proofs.YtekkngkphejfcaaDoor
open Go.RowKit

def t_nextF_2 : ST := .rd 0 (.rd 1 (.rd 2 (.rd 3 (.rd 4 (.rd 5 (.rd 6 (.rd 7 (.rd 8 (.rd 9 (.rd 10 (.rd 11 (.rd 12 (.rd 13 (.rd 14 (.rd 15 (.rd 16 (.rd 17 (.rd 18 (.rd 19 (.rd 20 (.rd 21 (.rd 22 (.rd 23 (.rd 24 (.rd 25 (.rd 26 (.rd 27 (.rd 28 (.ef 29 (.rd 30 (.fin [] [5, 6])) (.no))))))))))))))))))))))))))))))
def a_nextF_2 : Prop := TOk (regF Tryd.f62 2) [29] t_nextF_2
theorem s_nextF_2 : a_nextF_2 := by unfold a_nextF_2 TOk; kernel_rfl
def t_nextF_5 : ST := .rd 0 (.rd 1 (.rd 2 (.rd 3 (.rd 4 (.rd 5 (.rd 6 (.rd 7 (.rd 8 (.rd 9 (.rd 10 (.rd 11 (.rd 12 (.rd 13 (.rd 14 (.rd 15 (.ef 16 (.rd 17 (.fin [] [5, 6])) (.no)))))))))))))))))
def a_nextF_5 : Prop := TOk (regF Tryd.f62 5) [16] t_nextF_5
theorem s_nextF_5 : a_nextF_5 := by unfold a_nextF_5 TOk; kernel_rfl
def sch_nextF : Sch := fun i => match i with
  | 2 => .tre [29] t_nextF_2
  | 5 => .tre [16] t_nextF_5
  | _ => .no
def tgt_nextF_0 (s_ : Int × Int) (c : ConsD) (q : ProbD) (pos : List Int) (ln : Nat) (lost : List Int) : St := ⟨(frm 59 [(5, .ref 4 0), (6, .bool (decide (s_.2 < (c.runs.getD ((s_.1).toNat) 0))))]), ([some (.cells [.ref 1 0]), some (.cells (consC c ++ probC q ++ [.ints pos, .msl 2 1 0 ln])), some (.ints lost), some (.cells [.int .i64 s_.1, .int .i64 s_.2]), some (.cells [.int .i64 s_.1, .int .i64 (s_.2 + 1)])] : DH)⟩
def tgt_nextF_1 (c : ConsD) (q : ProbD) (pos : List Int) (ln : Nat) (lost : List Int) (s_ : Int × Int) : St := ⟨(frm 59 [(5, .ref 4 0), (6, .bool false)]), ([some (.cells [.ref 1 0]), some (.cells (consC c ++ probC q ++ [.ints pos, .msl 2 1 0 ln])), some (.ints lost), some (.cells [.int .i64 s_.1, .int .i64 s_.2]), some (.cells [.int .i64 s_.1, .int .i64 (s_.2 + 1)])] : DH)⟩
def tgt_nextF_2 (s_ : Int × Int) (c : ConsD) (q : ProbD) (pos : List Int) (ln : Nat) (lost : List Int) : St := ⟨(frm 59 [(5, .ref 4 0), (6, .bool (s_.2 == (c.runs.getD ((s_.1).toNat) 0)))]), ([some (.cells [.ref 1 0]), some (.cells (consC c ++ probC q ++ [.ints pos, .msl 2 1 0 ln])), some (.ints lost), some (.cells [.int .i64 s_.1, .int .i64 s_.2]), some (.cells [.int .i64 (s_.1 + 1), .int .i64 0])] : DH)⟩
def nextF_l0 (n : Nat) (s_ : Int × Int) (in_ : Bool) (c : ConsD) (q : ProbD) (pos : List Int) (ln : Nat) (lost : List Int) : Option ((Int × Int) × Bool × (List Int)) :=
  bif in_ then
   if R64 (s_.2 + 1) then
    bif (decide (s_.1 < ((c.runs.length : Nat) : Int))) then
     if (0 : Int) ≤ s_.1 ∧ s_.1 < ((c.runs.length : Nat) : Int) then
      some ((s_.1, (s_.2 + 1)), (decide (s_.2 < (c.runs.getD ((s_.1).toNat) 0))), lost)
     else none
    else
     some ((s_.1, (s_.2 + 1)), false, lost)
   else none
  else
   bif (s_.2 == 0) then
    some ((s_.1, s_.2), true, lost)
   else
    if R64 (s_.1 + 1) ∧ ((0 : Int) ≤ s_.1 ∧ s_.1 < ((c.runs.length : Nat) : Int)) then
     some (((s_.1 + 1), 0), (s_.2 == (c.runs.getD ((s_.1).toNat) 0)), lost)
    else none
def nextF (n : Nat) (s_ : Int × Int) (in_ : Bool) (c : ConsD) (q : ProbD) (pos : List Int) (ln : Nat) (lost : List Int) : Option ((Int × Int) × Bool × (List Int)) := nextF_l0 n s_ in_ c q pos ln lost
set_option maxRecDepth 100000 in
set_option maxHeartbeats 4000000 in
theorem nextF_ok {n : Nat} (s_ : Int × Int) (in_ : Bool) (c : ConsD) (q : ProbD) (pos : List Int) (ln : Nat) (lost : List Int) {r : (Int × Int) × Bool × (List Int)} (h : nextF n s_ in_ c q pos ln lost = some r) : ES Tryd.prog GG 62 [.agg 2 (L1 [.int .i64 s_.1, .int .i64 s_.2]), .bool in_, .ref 0 0] [some (.cells [.ref 1 0]), some (.cells (consC c ++ probC q ++ [.ints pos, .msl 2 1 0 ln])), some (.ints lost)] (.tup 2 (L1 [.agg 2 (L1 [.int .i64 r.1.1, .int .i64 r.1.2]), .bool r.2.1])) [some (.cells [.ref 1 0]), some (.cells (consC c ++ probC q ++ [.ints pos, .msl 2 1 0 ln])), some (.ints r.2.2)] false := by
  have hX : HX Fence.wide Tryd.prog := ⟨FOk.wide, by kernel_rfl⟩
  refine ES.of_trk Tryd.func62 (by kernel_rfl) (by kernel_rfl) (noIterB (by kernel_rfl)) (fun e => by cases e) fun B N => ?_
  unfold nextF at h
  unfold nextF_l0 at h
  rcases bifSome h with ⟨c0, h⟩ | ⟨c0, h⟩
  · obtain ⟨g0, h⟩ := guardSome h
    rcases bifSome h with ⟨c1, h⟩ | ⟨c1, h⟩
    · obtain ⟨g1, h⟩ := guardSome h
      cases h
      exact TrK.e hX sch_nextF 14 [5, 6] [0, 1, 2, 4] [([(29, 4)], (tgt_nextF_0 s_ c q pos ln lost))] (.o 8 (DLe.bool c0) <| .g s_nextF_2 <| .o 13 (wr64 g0) <| .o 23 (DLe.bool c1) <| .g g1 <| .g trivial <| .g (Eq.refl (tgt_nextF_0 s_ c q pos ln lost)) <| .e) [] .e (by kernel_rfl)
    · cases h
      exact TrK.e hX sch_nextF 14 [5, 6] [0, 1, 2, 4] [([(29, 4)], (tgt_nextF_1 c q pos ln lost s_))] (.o 8 (DLe.bool c0) <| .g s_nextF_2 <| .o 13 (wr64 g0) <| .o 23 (DLe.bool c1) <| .g trivial <| .g (Eq.refl (tgt_nextF_1 c q pos ln lost s_)) <| .e) [] .e (by kernel_rfl)
  · rcases bifSome h with ⟨c1, h⟩ | ⟨c1, h⟩
    · cases h
      exact TrK.e hX sch_nextF 17 [5, 6] [0, 1, 2, 4] [] (.o 8 (DLe.bool c0) <| .o 41 (DLe.bool c1) <| .g trivial <| .e) [] .e (by kernel_rfl)
    · obtain ⟨⟨g0, g1⟩, h⟩ := guardSome h
      cases h
      exact TrK.e hX sch_nextF 19 [5, 6] [0, 1, 2, 4] [([(16, 4)], (tgt_nextF_2 s_ c q pos ln lost))] (.o 8 (DLe.bool c0) <| .o 41 (DLe.bool c1) <| .g s_nextF_5 <| .o 45 (wr64 g0) <| .g g1 <| .g trivial <| .g (Eq.refl (tgt_nextF_2 s_ c q pos ln lost)) <| .e) [] .e (by kernel_rfl)


def a_kindF_2 : Prop := SOk (regF Tryd.f63 2) [] [0, 1, 2, 3, 4, 5, 6, 7, 8, 9, 10, 11, 12, 13, 14, 15, 16, 17, 18, 19, 20, 21] []
theorem s_kindF_2 : a_kindF_2 := by unfold a_kindF_2 SOk; kernel_rfl
def a_kindF_3 : Prop := SOk (regF Tryd.f63 3) [] [0, 1, 2, 3, 4, 5, 6, 7, 8, 9, 10, 11, 12, 13, 14, 15, 16, 17, 18, 19, 20, 21] []
theorem s_kindF_3 : a_kindF_3 := by unfold a_kindF_3 SOk; kernel_rfl
def sch_kindF : Sch := fun i => match i with
  | 2 => .ord [] [0, 1, 2, 3, 4, 5, 6, 7, 8, 9, 10, 11, 12, 13, 14, 15, 16, 17, 18, 19, 20, 21] []
  | 3 => .ord [] [0, 1, 2, 3, 4, 5, 6, 7, 8, 9, 10, 11, 12, 13, 14, 15, 16, 17, 18, 19, 20, 21] []
  | _ => .no
def kindF_l0 (n : Nat) (i_ : Int) (in_ : Bool) (c : ConsD) (q : ProbD) (pos : List Int) (ln : Nat) (lost : List Int) : Option (Bool × (List Int)) :=
  bif in_ then
   if ((0 : Int) ≤ i_ ∧ i_ < ((c.cells.length : Nat) : Int)) ∧ ((0 : Int) ≤ (c.cells.getD ((i_).toNat) 0) ∧ (c.cells.getD ((i_).toNat) 0) < ((pos.length : Nat) : Int)) then
    some (((bits .and .i64 (pos.getD ((c.cells.getD ((i_).toNat) 0).toNat) 0) c.set) != 0), lost)
   else none
  else
   if ((0 : Int) ≤ i_ ∧ i_ < ((c.cells.length : Nat) : Int)) ∧ ((0 : Int) ≤ (c.cells.getD ((i_).toNat) 0) ∧ (c.cells.getD ((i_).toNat) 0) < ((pos.length : Nat) : Int)) then
    some (((bits .andNot .i64 (pos.getD ((c.cells.getD ((i_).toNat) 0).toNat) 0) c.set) != 0), lost)
   else none
def kindF (n : Nat) (i_ : Int) (in_ : Bool) (c : ConsD) (q : ProbD) (pos : List Int) (ln : Nat) (lost : List Int) : Option (Bool × (List Int)) := kindF_l0 n i_ in_ c q pos ln lost
set_option maxRecDepth 100000 in
set_option maxHeartbeats 4000000 in
theorem kindF_ok {n : Nat} (i_ : Int) (in_ : Bool) (c : ConsD) (q : ProbD) (pos : List Int) (ln : Nat) (lost : List Int) {r : Bool × (List Int)} (h : kindF n i_ in_ c q pos ln lost = some r) : ES Tryd.prog GG 63 [.int .i64 i_, .bool in_, .ref 0 0] [some (.cells [.ref 1 0]), some (.cells (consC c ++ probC q ++ [.ints pos, .msl 2 1 0 ln])), some (.ints lost)] (.bool r.1) [some (.cells [.ref 1 0]), some (.cells (consC c ++ probC q ++ [.ints pos, .msl 2 1 0 ln])), some (.ints r.2)] false := by
  have hX : HX Fence.wide Tryd.prog := ⟨FOk.wide, by kernel_rfl⟩
  refine ES.of_trk Tryd.func63 (by kernel_rfl) (by kernel_rfl) (noIterB (by kernel_rfl)) (fun e => by cases e) fun B N => ?_
  unfold kindF at h
  unfold kindF_l0 at h
  rcases bifSome h with ⟨c0, h⟩ | ⟨c0, h⟩
  · obtain ⟨⟨g0, g1⟩, h⟩ := guardSome h
    cases h
    exact TrK.e hX sch_kindF 13 [5] [0, 1, 2] [] (.o 6 (DLe.bool c0) <| .g s_kindF_2 <| .g g0 <| .g g1 <| .e) [] .e (by kernel_rfl)
  · obtain ⟨⟨g0, g1⟩, h⟩ := guardSome h
    cases h
    exact TrK.e hX sch_kindF 14 [5] [0, 1, 2] [] (.o 6 (DLe.bool c0) <| .g s_kindF_3 <| .g g0 <| .g g1 <| .e) [] .e (by kernel_rfl)


def a_runsW_24 : Prop := SOk (regF Tryd.f44 24) [] [0, 1, 2, 3, 4, 5] [6]
theorem s_runsW_24 : a_runsW_24 := by unfold a_runsW_24 SOk; kernel_rfl
def t_runsW_49 : ST := .rd 0 (.rd 1 (.rd 2 (.rd 3 (.rd 4 (.rd 5 (.rd 6 (.rd 7 (.rd 8 (.rd 9 (.rd 10 (.rd 11 (.rd 12 (.rd 13 (.ef 14 (.fin [] [1, 3, 5, 7, 14, 16, 18]) (.no)))))))))))))))
def a_runsW_49 : Prop := TOk (regF Tryd.f44 49) [] t_runsW_49
theorem s_runsW_49 : a_runsW_49 := by unfold a_runsW_49 TOk; kernel_rfl
def t_runsW_51 : ST := .rd 0 (.rd 1 (.rd 2 (.rd 3 (.rd 4 (.rd 5 (.rd 6 (.rd 7 (.rd 8 (.ef 9 (.fin [] [1, 3, 5, 7, 14, 16]) (.no))))))))))
def a_runsW_51 : Prop := TOk (regF Tryd.f44 51) [] t_runsW_51
theorem s_runsW_51 : a_runsW_51 := by unfold a_runsW_51 TOk; kernel_rfl
def sch_runsW : Sch := fun i => match i with
  | 24 => .ord [] [0, 1, 2, 3, 4, 5] [6]
  | 49 => .tre [] t_runsW_49
  | 51 => .tre [] t_runsW_51
  | _ => .no
def hp_runsW_0 (c : ConsD) (q : ProbD) (pos : List Int) (ln : Nat) (o1 : List Int) (o3 : List (Option KS)) : DH := [some (.cells (consC c ++ probC q ++ [.ints pos, .msl 1 1 0 ln])), some (.ints o1), some (.cells [.ref 0 0]), some (.mo (.sets 2 o3 none))]
def hp_runsW_1 (c : ConsD) (q : ProbD) (pos : List Int) (ln : Nat) (o1 : List Int) (o3 : List (Option KS)) (x59 : Int) (gk : LK) : DH := [some (.cells (consC c ++ probC q ++ [.ints pos, .msl 1 1 0 ln])), some (.ints o1), some (.cells [.ref 0 0]), some (.mo (.sets 2 o3 (some (0 + ((x59).toNat), gk))))]
def hp_runsW_2 (c : ConsD) (q : ProbD) (pos : List Int) (ln : Nat) (o1 : List Int) (o3 : List (Option KS)) (o3_i : Nat) (gk : LK) (o4 : KS) : DH := [some (.cells (consC c ++ probC q ++ [.ints pos, .msl 1 1 0 ln])), some (.ints o1), some (.cells [.ref 0 0]), some (.mo (.sets 2 o3 (some (o3_i, gk)))), some (.mo (.mit 2 gk.1 gk.2.1 gk.2.2 o4 none))]
def hp_runsW_3 (c : ConsD) (q : ProbD) (pos : List Int) (ln : Nat) (o1 : List Int) (o3 : List (Option KS)) (o3_i : Nat) (gk : LK) (o4 : KS) (y1 : List Int) : DH := [some (.cells (consC c ++ probC q ++ [.ints pos, .msl 1 1 0 ln])), some (.ints o1), some (.cells [.ref 0 0]), some (.mo (.sets 2 o3 (some (o3_i, gk)))), some (.mo (.mit 2 gk.1 gk.2.1 gk.2.2 (o4.erase y1) (some y1)))]
def hp_runsW_4 (c : ConsD) (q : ProbD) (pos : List Int) (ln : Nat) (o1 : List Int) (o3 : List (Option KS)) (o4 : KS) : DH := [some (.cells (consC c ++ probC q ++ [.ints pos, .msl 1 1 0 ln])), some (.ints o1), some (.cells [.ref 0 0]), some (.mo (.sets 2 o3 none)), some (.mo (.set 2 o4)), some (.mo (.set 2 ([] : KS))), some (.cells [.bool false, .bool false])]
def hp_runsW_5 (c : ConsD) (q : ProbD) (pos : List Int) (ln : Nat) (o1 : List Int) (o3 : List (Option KS)) (x16 : Int) (gk : LK) (o4 : KS) : DH := [some (.cells (consC c ++ probC q ++ [.ints pos, .msl 1 1 0 ln])), some (.ints o1), some (.cells [.ref 0 0]), some (.mo (.sets 2 o3 (some (0 + ((x16).toNat), gk)))), some (.mo (.set 2 o4)), some (.mo (.set 2 ([] : KS))), some (.cells [.bool false, .bool false])]
def hp_runsW_6 (c : ConsD) (q : ProbD) (pos : List Int) (ln : Nat) (o1 : List Int) (o3 : List (Option KS)) (o3_i : Nat) (gk : LK) (o4_0 o4_1 : Int) (o5 : KS) (o5_c : List Int) : DH := [some (.cells (consC c ++ probC q ++ [.ints pos, .msl 1 1 0 ln])), some (.ints o1), some (.cells [.ref 0 0]), some (.mo (.sets 2 o3 (some (o3_i, gk)))), some (.cells [.int .i64 o4_0, .int .i64 o4_1]), some (.mo (.mit 2 gk.1 gk.2.1 gk.2.2 o5 (some o5_c))), some (.bools ([false, true] : List Bool))]
def hp_runsW_7 (c : ConsD) (q : ProbD) (pos : List Int) (ln : Nat) (y1 : (Int × Int) × Bool × (List Int)) (o3 : List (Option KS)) (o3_i : Nat) (gk : LK) (o4_0 o4_1 : Int) (o5 : KS) (o5_c : List Int) : DH := [some (.cells (consC c ++ probC q ++ [.ints pos, .msl 1 1 0 ln])), some (.ints y1.2.2), some (.cells [.ref 0 0]), some (.mo (.sets 2 o3 (some (o3_i, gk)))), some (.cells [.int .i64 o4_0, .int .i64 o4_1]), some (.mo (.mit 2 gk.1 gk.2.1 gk.2.2 o5 (some o5_c))), some (.bools ([false, true] : List Bool)), some (.cells [.int .i64 y1.1.1, .int .i64 y1.1.2])]
def hp_runsW_8 (c : ConsD) (q : ProbD) (pos : List Int) (ln : Nat) (o1 : List Int) (o3 : List (Option KS)) (o3_i : Nat) (gk : LK) (o4 o7 : KS) : DH := [some (.cells (consC c ++ probC q ++ [.ints pos, .msl 1 1 0 ln])), some (.ints o1), some (.cells [.ref 0 0]), some (.mo (.sets 2 o3 (some (o3_i, gk)))), some (.mo (.set 2 o4)), some (.mo (.set 2 ([] : KS))), some (.cells [.bool false, .bool false]), some (.mo (.mit 2 gk.1 gk.2.1 gk.2.2 o7 none))]
def tgt_runsW_9 (c : ConsD) (x16 : Int) (q : ProbD) (pos : List Int) (ln : Nat) (y2 : (List Int)) (o3 : List (Option KS)) (o4 : KS) : St := ⟨(frm 208 [(1, .ref 2 0), (3, .fn 62 1 (L1 [.ref 2 0])), (5, .msl 3 1 0 (((((c.cells.length : Nat) : Int) + 1)).toNat)), (7, .fn 63 1 (L1 [.ref 2 0])), (14, .it 5), (16, .int .i64 x16), (18, .ref 6 0)]), ([some (.cells (consC c ++ probC q ++ [.ints pos, .msl 1 1 0 ln])), some (.ints y2), some (.cells [.ref 0 0]), some (.mo (.sets 2 o3 none)), some (.mo (.set 2 o4)), some (.mo (.set 2 ([] : KS))), some (.cells [.bool false, .bool false])] : DH)⟩
def hp_runsW_10 (c : ConsD) (q : ProbD) (pos : List Int) (ln : Nat) (y2 : (List Int)) (o3 : List (Option KS)) (o4 : KS) : DH := [some (.cells (consC c ++ probC q ++ [.ints pos, .msl 1 1 0 ln])), some (.ints y2), some (.cells [.ref 0 0]), some (.mo (.sets 2 o3 none)), some (.mo (.set 2 o4)), some (.mo (.set 2 ([] : KS))), some (.cells [.bool false, .bool false])]
def tgt_runsW_11 (c : ConsD) (x16 : Int) (q : ProbD) (pos : List Int) (ln : Nat) (y3 : (List Int)) (o3 : List (Option KS)) (o4 : KS) : St := ⟨(frm 208 [(1, .ref 2 0), (3, .fn 62 1 (L1 [.ref 2 0])), (5, .msl 3 1 0 (((((c.cells.length : Nat) : Int) + 1)).toNat)), (7, .fn 63 1 (L1 [.ref 2 0])), (14, .it 5), (16, .int .i64 x16)]), ([some (.cells (consC c ++ probC q ++ [.ints pos, .msl 1 1 0 ln])), some (.ints y3), some (.cells [.ref 0 0]), some (.mo (.sets 2 o3 none)), some (.mo (.set 2 o4)), some (.mo (.set 2 ([] : KS))), some (.cells [.bool false, .bool false])] : DH)⟩
def hp_runsW_12 (c : ConsD) (q : ProbD) (pos : List Int) (ln : Nat) (o1 : List Int) (o3 : List (Option KS)) (o3_i : Nat) (gk : LK) (o4 o7 : KS) (y1 : List Int) : DH := [some (.cells (consC c ++ probC q ++ [.ints pos, .msl 1 1 0 ln])), some (.ints o1), some (.cells [.ref 0 0]), some (.mo (.sets 2 o3 (some (o3_i, gk)))), some (.mo (.set 2 o4)), some (.mo (.set 2 ([] : KS))), some (.cells [.bool false, .bool false]), some (.mo (.mit 2 gk.1 gk.2.1 gk.2.2 (o7.erase y1) (some y1)))]
def hp_runsW_13 (c : ConsD) (q : ProbD) (pos : List Int) (ln : Nat) (o1 : List Int) (o3 : List (Option KS)) (o3_i : Nat) (gk : LK) (o4 o5 : KS) (o6_0 o6_1 : Bool) (o7_0 o7_1 : Int) (o8 : KS) (o8_c : List Int) : DH := [some (.cells (consC c ++ probC q ++ [.ints pos, .msl 1 1 0 ln])), some (.ints o1), some (.cells [.ref 0 0]), some (.mo (.sets 2 o3 (some (o3_i, gk)))), some (.mo (.set 2 o4)), some (.mo (.set 2 o5)), some (.cells [.bool o6_0, .bool o6_1]), some (.cells [.int .i64 o7_0, .int .i64 o7_1]), some (.mo (.mit 2 gk.1 gk.2.1 gk.2.2 o8 (some o8_c))), some (.bools ([false, true] : List Bool))]
def hp_runsW_14 (c : ConsD) (q : ProbD) (pos : List Int) (ln : Nat) (y1 : (Int × Int) × Bool × (List Int)) (o3 : List (Option KS)) (o3_i : Nat) (gk : LK) (o4 o5 : KS) (o6_0 o6_1 : Bool) (o7_0 o7_1 : Int) (o8 : KS) (o8_c : List Int) : DH := [some (.cells (consC c ++ probC q ++ [.ints pos, .msl 1 1 0 ln])), some (.ints y1.2.2), some (.cells [.ref 0 0]), some (.mo (.sets 2 o3 (some (o3_i, gk)))), some (.mo (.set 2 o4)), some (.mo (.set 2 o5)), some (.cells [.bool o6_0, .bool o6_1]), some (.cells [.int .i64 o7_0, .int .i64 o7_1]), some (.mo (.mit 2 gk.1 gk.2.1 gk.2.2 o8 (some o8_c))), some (.bools ([false, true] : List Bool)), some (.cells [.int .i64 y1.1.1, .int .i64 y1.1.2])]
def hp_runsW_15 (c : ConsD) (q : ProbD) (pos : List Int) (ln : Nat) (o1 : List Int) (o3 : List (Option KS)) (o3_i : Nat) (gk : LK) (o4 : KS) (o4_c : List Int) : DH := [some (.cells (consC c ++ probC q ++ [.ints pos, .msl 1 1 0 ln])), some (.ints o1), some (.cells [.ref 0 0]), some (.mo (.sets 2 o3 (some (o3_i, gk)))), some (.mo (.mit 2 gk.1 gk.2.1 gk.2.2 o4 (some o4_c)))]
def hp_runsW_16 (c : ConsD) (q : ProbD) (pos : List Int) (ln : Nat) (o1 : List Int) (o3 : List (Option KS)) (o3_i : Nat) (gk : LK) (o4 o5 : KS) (o6_0 o6_1 : Bool) (o7 : KS) (o7_c : List Int) : DH := [some (.cells (consC c ++ probC q ++ [.ints pos, .msl 1 1 0 ln])), some (.ints o1), some (.cells [.ref 0 0]), some (.mo (.sets 2 o3 (some (o3_i, gk)))), some (.mo (.set 2 o4)), some (.mo (.set 2 o5)), some (.cells [.bool o6_0, .bool o6_1]), some (.mo (.mit 2 gk.1 gk.2.1 gk.2.2 o7 (some o7_c)))]
def hp_runsW_17 (c : ConsD) (q : ProbD) (pos : List Int) (ln : Nat) (o1 : List Int) (o3 : List (Option KS)) (o4 o5 : KS) (o6_0 o6_1 : Bool) : DH := [some (.cells (consC c ++ probC q ++ [.ints pos, .msl 1 1 0 ln])), some (.ints o1), some (.cells [.ref 0 0]), some (.mo (.sets 2 o3 none)), some (.mo (.set 2 o4)), some (.mo (.set 2 o5)), some (.cells [.bool o6_0, .bool o6_1])]
def tgt_runsW_18 (c : ConsD) (x16 : Int) (q : ProbD) (pos : List Int) (ln : Nat) (y2 : (List Int)) (o3 : List (Option KS)) (o4 o5 : KS) (o6_0 o6_1 : Bool) : St := ⟨(frm 208 [(1, .ref 2 0), (3, .fn 62 1 (L1 [.ref 2 0])), (5, .msl 3 1 0 (((((c.cells.length : Nat) : Int) + 1)).toNat)), (7, .fn 63 1 (L1 [.ref 2 0])), (14, .it 5), (16, .int .i64 x16), (18, .ref 6 0)]), ([some (.cells (consC c ++ probC q ++ [.ints pos, .msl 1 1 0 ln])), some (.ints y2), some (.cells [.ref 0 0]), some (.mo (.sets 2 o3 none)), some (.mo (.set 2 o4)), some (.mo (.set 2 o5)), some (.cells [.bool o6_0, .bool o6_1])] : DH)⟩
def hp_runsW_19 (c : ConsD) (q : ProbD) (pos : List Int) (ln : Nat) (y2 : (List Int)) (o3 : List (Option KS)) (o4 o5 : KS) (o6_0 o6_1 : Bool) : DH := [some (.cells (consC c ++ probC q ++ [.ints pos, .msl 1 1 0 ln])), some (.ints y2), some (.cells [.ref 0 0]), some (.mo (.sets 2 o3 none)), some (.mo (.set 2 o4)), some (.mo (.set 2 o5)), some (.cells [.bool o6_0, .bool o6_1])]
def tgt_runsW_20 (c : ConsD) (x16 : Int) (q : ProbD) (pos : List Int) (ln : Nat) (y3 : (List Int)) (o3 : List (Option KS)) (o4 o5 : KS) (o6_0 o6_1 : Bool) : St := ⟨(frm 208 [(1, .ref 2 0), (3, .fn 62 1 (L1 [.ref 2 0])), (5, .msl 3 1 0 (((((c.cells.length : Nat) : Int) + 1)).toNat)), (7, .fn 63 1 (L1 [.ref 2 0])), (14, .it 5), (16, .int .i64 x16)]), ([some (.cells (consC c ++ probC q ++ [.ints pos, .msl 1 1 0 ln])), some (.ints y3), some (.cells [.ref 0 0]), some (.mo (.sets 2 o3 none)), some (.mo (.set 2 o4)), some (.mo (.set 2 o5)), some (.cells [.bool o6_0, .bool o6_1])] : DH)⟩
def tgt_runsW_21 (c : ConsD) (x16 : Int) (q : ProbD) (pos : List Int) (ln : Nat) (y2 : (List Int)) (o3 : List (Option KS)) (o4 o5 : KS) (o6_0 o6_1 : Bool) : St := ⟨(frm 208 [(1, .ref 2 0), (3, .fn 62 1 (L1 [.ref 2 0])), (5, .msl 3 1 0 (((((c.cells.length : Nat) : Int) + 1)).toNat)), (7, .fn 63 1 (L1 [.ref 2 0])), (14, .it 5), (16, .int .i64 x16)]), ([some (.cells (consC c ++ probC q ++ [.ints pos, .msl 1 1 0 ln])), some (.ints y2), some (.cells [.ref 0 0]), some (.mo (.sets 2 o3 none)), some (.mo (.set 2 o4)), some (.mo (.set 2 o5)), some (.cells [.bool o6_0, .bool o6_1])] : DH)⟩
def hp_runsW_22 (c : ConsD) (q : ProbD) (pos : List Int) (ln : Nat) (o1 : List Int) (o3 : List (Option KS)) (o3_i : Nat) (gk : LK) (o4 o5 : KS) (o6_0 o6_1 : Bool) (o7 : KS) (y1 : List Int) : DH := [some (.cells (consC c ++ probC q ++ [.ints pos, .msl 1 1 0 ln])), some (.ints o1), some (.cells [.ref 0 0]), some (.mo (.sets 2 o3 (some (o3_i, gk)))), some (.mo (.set 2 o4)), some (.mo (.set 2 o5)), some (.cells [.bool o6_0, .bool o6_1]), some (.mo (.mit 2 gk.1 gk.2.1 gk.2.2 (o7.erase y1) (some y1)))]
inductive runsWPt where
  | l1 (x45 : Int) (o3 : List (Option KS))
  | l2 (x59 : Int) (o1 : List Int) (o3 : List (Option KS))
  | l3 (x8 x59 : Int) (o1 : List Int) (o3 : List (Option KS)) (o3_i : Nat) (o4 : KS)
  | l4 (x16 : Int) (o1 : List Int) (o3 : List (Option KS)) (o4 : KS)
  | l5 (x8 x59 x73 : Int) (o1 : List Int) (o3 : List (Option KS)) (o3_i : Nat) (o4_0 o4_1 : Int) (o5 : KS) (o5_c : List Int)
  | l6 (x16 : Int) (o1 : List Int) (o3 : List (Option KS)) (o3_i : Nat) (o4 o7 : KS)
  | l7 (x16 x147 : Int) (o1 : List Int) (o3 : List (Option KS)) (o3_i : Nat) (o4 o5 : KS) (o6_0 o6_1 : Bool) (o7_0 o7_1 : Int) (o8 : KS) (o8_c : List Int)
  | l8 (x8 x59 : Int) (o1 : List Int) (o3 : List (Option KS)) (o3_i : Nat) (o4 : KS) (o4_c : List Int)
  | l9 (x16 : Int) (o1 : List Int) (o3 : List (Option KS)) (o3_i : Nat) (o4 o5 : KS) (o6_0 o6_1 : Bool) (o7 : KS) (o7_c : List Int)
def runsW_l1 (n : Nat) (self : runsWPt → Option (Bool × (List Int))) (c : ConsD) (q : ProbD) (pos : List Int) (ln : Nat) (lost : List Int) (x45 : Int) (o3 : List (Option KS)) : Option (Bool × (List Int)) :=
  bif (decide (x45 < ((((((c.cells.length : Nat) : Int) + 1)).toNat : Nat) : Int))) then
   if ((0 : Int) ≤ x45 ∧ x45 < ((((((c.cells.length : Nat) : Int) + 1)).toNat : Nat) : Int)) ∧ 0 + ((x45).toNat) < o3.length ∧ R64 (x45 + 1) then
    self (.l1 (x45 + 1) (o3.set (0 + ((x45).toNat)) (some ([] : KS))))
   else none
  else
   if ((0 : Int) ≤ 0 ∧ 0 < ((((((c.cells.length : Nat) : Int) + 1)).toNat : Nat) : Int)) ∧ 0 + 0 < o3.length ∧ (o3.getD (0 + 0) none).isSome = true then
    self (.l2 0 lost (o3.set (0 + 0) (some (putK [0, 0] ((o3.getD (0 + 0) none).getD [])))))
   else none
def runsW_l2 (n : Nat) (self : runsWPt → Option (Bool × (List Int))) (c : ConsD) (q : ProbD) (pos : List Int) (ln : Nat) (lost : List Int) (x59 : Int) (o1 : List Int) (o3 : List (Option KS)) : Option (Bool × (List Int)) :=
  bif (decide (x59 < ((c.cells.length : Nat) : Int))) then
   if (o3.getD (0 + ((x59).toNat)) none).isSome = true then
    if ((0 : Int) ≤ x59 ∧ x59 < ((((((c.cells.length : Nat) : Int) + 1)).toNat : Nat) : Int)) ∧ 0 + ((x59).toNat) < o3.length ∧ (o3.getD (0 + ((x59).toNat)) none).isSome = true then
     self (.l3 x59 x59 o1 o3 (0 + ((x59).toNat)) ((o3.getD (0 + ((x59).toNat)) none).getD []))
    else none
   else none
  else
   bif (decide (((c.runs.length : Nat) : Int) > 0)) then
    if R64 (((c.runs.length : Nat) : Int) - 1) ∧ ((0 : Int) ≤ (((c.runs.length : Nat) : Int) - 1) ∧ (((c.runs.length : Nat) : Int) - 1) < ((c.runs.length : Nat) : Int)) ∧ R64 (((c.cells.length : Nat) : Int) - 1) then
     self (.l4 (((c.cells.length : Nat) : Int) - 1) o1 o3 (putK [(((c.runs.length : Nat) : Int) - 1), c.runs.getD (((((c.runs.length : Nat) : Int) - 1)).toNat) 0] (putK [((c.runs.length : Nat) : Int), 0] ([] : KS))))
    else none
   else
    if R64 (((c.cells.length : Nat) : Int) - 1) then
     self (.l4 (((c.cells.length : Nat) : Int) - 1) o1 o3 (putK [((c.runs.length : Nat) : Int), 0] ([] : KS)))
    else none
def runsW_l3 (n : Nat) (self : runsWPt → Option (Bool × (List Int))) (c : ConsD) (q : ProbD) (pos : List Int) (ln : Nat) (lost : List Int) (x8 x59 : Int) (o1 : List Int) (o3 : List (Option KS)) (o3_i : Nat) (o4 : KS) : Option (Bool × (List Int)) :=
  if (o3.getD o3_i none).isSome = true then
   onNext o4 (
    if R64 (x59 + 1) then
     self (.l2 (x59 + 1) o1 o3)
    else none) fun y1 =>
    if (o3.getD o3_i none).isSome = true then
     self (.l5 x8 x59 0 o1 o3 o3_i (y1.getD 0 0) (y1.getD 1 0) (o4.erase y1) y1)
    else none
  else none
def runsW_l4 (n : Nat) (self : runsWPt → Option (Bool × (List Int))) (c : ConsD) (q : ProbD) (pos : List Int) (ln : Nat) (lost : List Int) (x16 : Int) (o1 : List Int) (o3 : List (Option KS)) (o4 : KS) : Option (Bool × (List Int)) :=
  bif (decide (x16 ≥ 0)) then
   if (o3.getD (0 + ((x16).toNat)) none).isSome = true then
    if ((0 : Int) ≤ x16 ∧ x16 < ((((((c.cells.length : Nat) : Int) + 1)).toNat : Nat) : Int)) ∧ 0 + ((x16).toNat) < o3.length ∧ (o3.getD (0 + ((x16).toNat)) none).isSome = true then
     self (.l6 x16 o1 o3 (0 + ((x16).toNat)) o4 ((o3.getD (0 + ((x16).toNat)) none).getD []))
    else none
   else none
  else
   some (true, o1)
def runsW_l5 (n : Nat) (self : runsWPt → Option (Bool × (List Int))) (c : ConsD) (q : ProbD) (pos : List Int) (ln : Nat) (lost : List Int) (x8 x59 x73 : Int) (o1 : List Int) (o3 : List (Option KS)) (o3_i : Nat) (o4_0 o4_1 : Int) (o5 : KS) (o5_c : List Int) : Option (Bool × (List Int)) :=
  bif (decide (x73 < 2)) then
   if ((0 : Int) ≤ x73 ∧ x73 < ((2 : Nat) : Int)) ∧ 0 + ((x73).toNat) < ([false, true] : List Bool).length then
    (nextF n (o4_0, o4_1) (([false, true] : List Bool).getD (0 + ((x73).toNat)) false) c q pos ln o1).bind fun y1 =>
     bif y1.2.1 then
      (kindF n x8 (([false, true] : List Bool).getD (0 + ((x73).toNat)) false) c q pos ln y1.2.2).bind fun y2 =>
       bif y2.1 then
        if R64 (x8 + 1) ∧ ((0 : Int) ≤ (x8 + 1) ∧ (x8 + 1) < ((((((c.cells.length : Nat) : Int) + 1)).toNat : Nat) : Int)) ∧ 0 + (((x8 + 1)).toNat) < o3.length ∧ o3_i ≠ 0 + (((x8 + 1)).toNat) ∧ (o3.getD (0 + (((x8 + 1)).toNat)) none).isSome = true ∧ R64 (x73 + 1) then
         self (.l5 x8 x59 (x73 + 1) y2.2 (o3.set (0 + (((x8 + 1)).toNat)) (some (putK [y1.1.1, y1.1.2] ((o3.getD (0 + (((x8 + 1)).toNat)) none).getD [])))) o3_i o4_0 o4_1 o5 o5_c)
        else none
       else
        if R64 (x73 + 1) then
         self (.l5 x8 x59 (x73 + 1) y2.2 o3 o3_i o4_0 o4_1 o5 o5_c)
        else none
     else
      if R64 (x73 + 1) then
       self (.l5 x8 x59 (x73 + 1) y1.2.2 o3 o3_i o4_0 o4_1 o5 o5_c)
      else none
   else none
  else
   self (.l8 x8 x59 o1 o3 o3_i o5 o5_c)
def runsW_l6 (n : Nat) (self : runsWPt → Option (Bool × (List Int))) (c : ConsD) (q : ProbD) (pos : List Int) (ln : Nat) (lost : List Int) (x16 : Int) (o1 : List Int) (o3 : List (Option KS)) (o3_i : Nat) (o4 o7 : KS) : Option (Bool × (List Int)) :=
  if (o3.getD o3_i none).isSome = true then
   onNext o7 (
    if (0 : Int) ≤ x16 ∧ x16 < ((c.cells.length : Nat) : Int) then
     (loseW n (c.cells.getD ((x16).toNat) 0) c.set c q pos ln o1).bind fun y2 =>
      (onlyW n (c.cells.getD ((x16).toNat) 0) c q pos ln y2).bind fun y3 =>
       if R64 (x16 - 1) then
        self (.l4 (x16 - 1) y3 o3 ([] : KS))
       else none
    else none) fun y1 =>
    if (o3.getD o3_i none).isSome = true then
     self (.l7 x16 0 o1 o3 o3_i o4 ([] : KS) false false (y1.getD 0 0) (y1.getD 1 0) (o7.erase y1) y1)
    else none
  else none
def runsW_l7 (n : Nat) (self : runsWPt → Option (Bool × (List Int))) (c : ConsD) (q : ProbD) (pos : List Int) (ln : Nat) (lost : List Int) (x16 x147 : Int) (o1 : List Int) (o3 : List (Option KS)) (o3_i : Nat) (o4 o5 : KS) (o6_0 o6_1 : Bool) (o7_0 o7_1 : Int) (o8 : KS) (o8_c : List Int) : Option (Bool × (List Int)) :=
  bif (decide (x147 < 2)) then
   if ((0 : Int) ≤ x147 ∧ x147 < ((2 : Nat) : Int)) ∧ 0 + ((x147).toNat) < ([false, true] : List Bool).length then
    (nextF n (o7_0, o7_1) (([false, true] : List Bool).getD (0 + ((x147).toNat)) false) c q pos ln o1).bind fun y1 =>
     bif y1.2.1 then
      (kindF n x16 (([false, true] : List Bool).getD (0 + ((x147).toNat)) false) c q pos ln y1.2.2).bind fun y2 =>
       bif y2.1 then
        bif (o4.contains [y1.1.1, y1.1.2]) then
         bif (x147 == 0) then
          if R64 (x147 + 1) then
           self (.l7 x16 (x147 + 1) y2.2 o3 o3_i o4 (putK [o7_0, o7_1] o5) true o6_1 o7_0 o7_1 o8 o8_c)
          else none
         else
          bif (x147 == 1) then
           if R64 (x147 + 1) then
            self (.l7 x16 (x147 + 1) y2.2 o3 o3_i o4 (putK [o7_0, o7_1] o5) o6_0 true o7_0 o7_1 o8 o8_c)
           else none
          else
           none
        else
         if R64 (x147 + 1) then
          self (.l7 x16 (x147 + 1) y2.2 o3 o3_i o4 o5 o6_0 o6_1 o7_0 o7_1 o8 o8_c)
         else none
       else
        if R64 (x147 + 1) then
         self (.l7 x16 (x147 + 1) y2.2 o3 o3_i o4 o5 o6_0 o6_1 o7_0 o7_1 o8 o8_c)
        else none
     else
      if R64 (x147 + 1) then
       self (.l7 x16 (x147 + 1) y1.2.2 o3 o3_i o4 o5 o6_0 o6_1 o7_0 o7_1 o8 o8_c)
      else none
   else none
  else
   self (.l9 x16 o1 o3 o3_i o4 o5 o6_0 o6_1 o8 o8_c)
def runsW_l8 (n : Nat) (self : runsWPt → Option (Bool × (List Int))) (c : ConsD) (q : ProbD) (pos : List Int) (ln : Nat) (lost : List Int) (x8 x59 : Int) (o1 : List Int) (o3 : List (Option KS)) (o3_i : Nat) (o4 : KS) (o4_c : List Int) : Option (Bool × (List Int)) :=
  if (o3.getD o3_i none).isSome = true then
   onNext o4 (
    if R64 (x59 + 1) then
     self (.l2 (x59 + 1) o1 o3)
    else none) fun y1 =>
    if (o3.getD o3_i none).isSome = true then
     self (.l5 x8 x59 0 o1 o3 o3_i (y1.getD 0 0) (y1.getD 1 0) (o4.erase y1) y1)
    else none
  else none
def runsW_l9 (n : Nat) (self : runsWPt → Option (Bool × (List Int))) (c : ConsD) (q : ProbD) (pos : List Int) (ln : Nat) (lost : List Int) (x16 : Int) (o1 : List Int) (o3 : List (Option KS)) (o3_i : Nat) (o4 o5 : KS) (o6_0 o6_1 : Bool) (o7 : KS) (o7_c : List Int) : Option (Bool × (List Int)) :=
  if (o3.getD o3_i none).isSome = true then
   onNext o7 (
    bif (!o6_1) then
     if (0 : Int) ≤ x16 ∧ x16 < ((c.cells.length : Nat) : Int) then
      (loseW n (c.cells.getD ((x16).toNat) 0) c.set c q pos ln o1).bind fun y2 =>
       bif (!o6_0) then
        (onlyW n (c.cells.getD ((x16).toNat) 0) c q pos ln y2).bind fun y3 =>
         if R64 (x16 - 1) then
          self (.l4 (x16 - 1) y3 o3 o5)
         else none
       else
        if R64 (x16 - 1) then
         self (.l4 (x16 - 1) y2 o3 o5)
        else none
     else none
    else
     bif (!o6_0) then
      if (0 : Int) ≤ x16 ∧ x16 < ((c.cells.length : Nat) : Int) then
       (onlyW n (c.cells.getD ((x16).toNat) 0) c q pos ln o1).bind fun y2 =>
        if R64 (x16 - 1) then
         self (.l4 (x16 - 1) y2 o3 o5)
        else none
      else none
     else
      if R64 (x16 - 1) then
       self (.l4 (x16 - 1) o1 o3 o5)
      else none) fun y1 =>
    if (o3.getD o3_i none).isSome = true then
     self (.l7 x16 0 o1 o3 o3_i o4 o5 o6_0 o6_1 (y1.getD 0 0) (y1.getD 1 0) (o7.erase y1) y1)
    else none
  else none
def runsW_l0 (n : Nat) (self : runsWPt → Option (Bool × (List Int))) (c : ConsD) (q : ProbD) (pos : List Int) (ln : Nat) (lost : List Int) : Option (Bool × (List Int)) :=
  bif (((c.cells.length : Nat) : Int) == 0) then
   some ((((c.runs.length : Nat) : Int) == 0), lost)
  else
   if R64 (((c.cells.length : Nat) : Int) + 1) ∧ (((((c.cells.length : Nat) : Int) + 1) : Int) = (((c.cells.length : Nat) : Int) + 1) ∧ (0 : Int) ≤ (((c.cells.length : Nat) : Int) + 1) ∧ ((((c.cells.length : Nat) : Int) + 1) : Int) ≤ 1000000000000) then
    self (.l1 0 (List.replicate (((((c.cells.length : Nat) : Int) + 1)).toNat) (none : Option KS)))
   else none
def runsW_m (c : ConsD) (q : ProbD) (pos : List Int) (ln : Nat) (lost : List Int) : Nat → runsWPt → Option (Bool × (List Int))
  | 0, _ => none
  | n + 1, .l1 x45 o3 => runsW_l1 n (runsW_m c q pos ln lost n) c q pos ln lost x45 o3
  | n + 1, .l2 x59 o1 o3 => runsW_l2 n (runsW_m c q pos ln lost n) c q pos ln lost x59 o1 o3
  | n + 1, .l3 x8 x59 o1 o3 o3_i o4 => runsW_l3 n (runsW_m c q pos ln lost n) c q pos ln lost x8 x59 o1 o3 o3_i o4
  | n + 1, .l4 x16 o1 o3 o4 => runsW_l4 n (runsW_m c q pos ln lost n) c q pos ln lost x16 o1 o3 o4
  | n + 1, .l5 x8 x59 x73 o1 o3 o3_i o4_0 o4_1 o5 o5_c => runsW_l5 n (runsW_m c q pos ln lost n) c q pos ln lost x8 x59 x73 o1 o3 o3_i o4_0 o4_1 o5 o5_c
  | n + 1, .l6 x16 o1 o3 o3_i o4 o7 => runsW_l6 n (runsW_m c q pos ln lost n) c q pos ln lost x16 o1 o3 o3_i o4 o7
  | n + 1, .l7 x16 x147 o1 o3 o3_i o4 o5 o6_0 o6_1 o7_0 o7_1 o8 o8_c => runsW_l7 n (runsW_m c q pos ln lost n) c q pos ln lost x16 x147 o1 o3 o3_i o4 o5 o6_0 o6_1 o7_0 o7_1 o8 o8_c
  | n + 1, .l8 x8 x59 o1 o3 o3_i o4 o4_c => runsW_l8 n (runsW_m c q pos ln lost n) c q pos ln lost x8 x59 o1 o3 o3_i o4 o4_c
  | n + 1, .l9 x16 o1 o3 o3_i o4 o5 o6_0 o6_1 o7 o7_c => runsW_l9 n (runsW_m c q pos ln lost n) c q pos ln lost x16 o1 o3 o3_i o4 o5 o6_0 o6_1 o7 o7_c
def runsW (n : Nat) (c : ConsD) (q : ProbD) (pos : List Int) (ln : Nat) (lost : List Int) : Option (Bool × (List Int)) := runsW_l0 n (runsW_m c q pos ln lost n) c q pos ln lost
/-- What the points stand for. -/
def runsW_at (n : Nat) (B : Nat) (N : Yard Tryd.prog GG 2) (c : ConsD) (q : ProbD) (pos : List Int) (ln : Nat) (lost : List Int) (r : Bool × (List Int)) : runsWPt → Prop
  | .l1 x45 o3 => ∀ m0 : Nat, n ≤ m0 → TrK Tryd.prog GG Fence.wide (some B) 2 N (Fin Tryd.prog Tryd.f44 2 (.bool r.1) [some (.cells (consC c ++ probC q ++ [.ints pos, .msl 1 1 0 ln])), some (.ints r.2)]) (toN m0 (atNC (bodyC Tryd.f44) 0 [])) ⟨frm 208 [(1, .ref 2 0), (3, .fn 62 1 (L1 [.ref 2 0])), (4, .int .i64 ((c.cells.length : Nat) : Int)), (5, .msl 3 1 0 (((((c.cells.length : Nat) : Int) + 1)).toNat)), (44, .int .i64 ((((((c.cells.length : Nat) : Int) + 1)).toNat : Nat) : Int)), (45, .int .i64 x45)], [some (.cells (consC c ++ probC q ++ [.ints pos, .msl 1 1 0 ln])), some (.ints lost), some (.cells [.ref 0 0]), some (.mo (.sets 2 o3 none))]⟩
  | .l2 x59 o1 o3 => ∀ m0 : Nat, n ≤ m0 → TrK Tryd.prog GG Fence.wide (some B) 2 N (Fin Tryd.prog Tryd.f44 2 (.bool r.1) [some (.cells (consC c ++ probC q ++ [.ints pos, .msl 1 1 0 ln])), some (.ints r.2)]) (toN m0 (atNC (bodyC Tryd.f44) 2 [])) ⟨frm 208 [(1, .ref 2 0), (3, .fn 62 1 (L1 [.ref 2 0])), (4, .int .i64 ((c.cells.length : Nat) : Int)), (5, .msl 3 1 0 (((((c.cells.length : Nat) : Int) + 1)).toNat)), (7, .fn 63 1 (L1 [.ref 2 0])), (58, .int .i64 ((c.cells.length : Nat) : Int)), (59, .int .i64 x59)], [some (.cells (consC c ++ probC q ++ [.ints pos, .msl 1 1 0 ln])), some (.ints o1), some (.cells [.ref 0 0]), some (.mo (.sets 2 o3 none))]⟩
  | .l3 x8 x59 o1 o3 o3_i o4 => ∀ m0 m1 : Nat, n ≤ m0 → n ≤ m1 → ∀ gk : LK, TrK Tryd.prog GG Fence.wide (some B) 2 N (Fin Tryd.prog Tryd.f44 2 (.bool r.1) [some (.cells (consC c ++ probC q ++ [.ints pos, .msl 1 1 0 ln])), some (.ints r.2)]) (toN m1 (atNC (bodyC Tryd.f44) 4 [m0])) ⟨frm 208 [(1, .ref 2 0), (3, .fn 62 1 (L1 [.ref 2 0])), (4, .int .i64 ((c.cells.length : Nat) : Int)), (5, .msl 3 1 0 (((((c.cells.length : Nat) : Int) + 1)).toNat)), (7, .fn 63 1 (L1 [.ref 2 0])), (8, .int .i64 x8), (58, .int .i64 ((c.cells.length : Nat) : Int)), (59, .int .i64 x59), (66, .it 4)], [some (.cells (consC c ++ probC q ++ [.ints pos, .msl 1 1 0 ln])), some (.ints o1), some (.cells [.ref 0 0]), some (.mo (.sets 2 o3 (some (o3_i, gk)))), some (.mo (.mit 2 gk.1 gk.2.1 gk.2.2 o4 none))]⟩
  | .l4 x16 o1 o3 o4 => ∀ m0 : Nat, n ≤ m0 → TrK Tryd.prog GG Fence.wide (some B) 2 N (Fin Tryd.prog Tryd.f44 2 (.bool r.1) [some (.cells (consC c ++ probC q ++ [.ints pos, .msl 1 1 0 ln])), some (.ints r.2)]) (toN m0 (atNC (bodyC Tryd.f44) 8 [])) ⟨frm 208 [(1, .ref 2 0), (3, .fn 62 1 (L1 [.ref 2 0])), (5, .msl 3 1 0 (((((c.cells.length : Nat) : Int) + 1)).toNat)), (7, .fn 63 1 (L1 [.ref 2 0])), (14, .it 4), (16, .int .i64 x16)], [some (.cells (consC c ++ probC q ++ [.ints pos, .msl 1 1 0 ln])), some (.ints o1), some (.cells [.ref 0 0]), some (.mo (.sets 2 o3 none)), some (.mo (.set 2 o4))]⟩
  | .l5 x8 x59 x73 o1 o3 o3_i o4_0 o4_1 o5 o5_c => ∀ m0 m1 m2 : Nat, n ≤ m0 → n ≤ m1 → n ≤ m2 → ∀ gk : LK, TrK Tryd.prog GG Fence.wide (some B) 2 N (Fin Tryd.prog Tryd.f44 2 (.bool r.1) [some (.cells (consC c ++ probC q ++ [.ints pos, .msl 1 1 0 ln])), some (.ints r.2)]) (toN m2 (atNC (bodyC Tryd.f44) 6 [m0, m1])) ⟨frm 208 [(1, .ref 2 0), (3, .fn 62 1 (L1 [.ref 2 0])), (4, .int .i64 ((c.cells.length : Nat) : Int)), (5, .msl 3 1 0 (((((c.cells.length : Nat) : Int) + 1)).toNat)), (7, .fn 63 1 (L1 [.ref 2 0])), (8, .int .i64 x8), (9, .ref 4 0), (58, .int .i64 ((c.cells.length : Nat) : Int)), (59, .int .i64 x59), (66, .it 5), (71, .msl 6 1 0 2), (72, .int .i64 2), (73, .int .i64 x73)], [some (.cells (consC c ++ probC q ++ [.ints pos, .msl 1 1 0 ln])), some (.ints o1), some (.cells [.ref 0 0]), some (.mo (.sets 2 o3 (some (o3_i, gk)))), some (.cells [.int .i64 o4_0, .int .i64 o4_1]), some (.mo (.mit 2 gk.1 gk.2.1 gk.2.2 o5 (some o5_c))), some (.bools ([false, true] : List Bool))]⟩
  | .l6 x16 o1 o3 o3_i o4 o7 => ∀ m0 m1 : Nat, n ≤ m0 → n ≤ m1 → ∀ gk : LK, TrK Tryd.prog GG Fence.wide (some B) 2 N (Fin Tryd.prog Tryd.f44 2 (.bool r.1) [some (.cells (consC c ++ probC q ++ [.ints pos, .msl 1 1 0 ln])), some (.ints r.2)]) (toN m1 (atNC (bodyC Tryd.f44) 10 [m0])) ⟨frm 208 [(1, .ref 2 0), (3, .fn 62 1 (L1 [.ref 2 0])), (5, .msl 3 1 0 (((((c.cells.length : Nat) : Int) + 1)).toNat)), (7, .fn 63 1 (L1 [.ref 2 0])), (14, .it 4), (16, .int .i64 x16), (17, .it 5), (18, .ref 6 0), (140, .it 7)], [some (.cells (consC c ++ probC q ++ [.ints pos, .msl 1 1 0 ln])), some (.ints o1), some (.cells [.ref 0 0]), some (.mo (.sets 2 o3 (some (o3_i, gk)))), some (.mo (.set 2 o4)), some (.mo (.set 2 ([] : KS))), some (.cells [.bool false, .bool false]), some (.mo (.mit 2 gk.1 gk.2.1 gk.2.2 o7 none))]⟩
  | .l7 x16 x147 o1 o3 o3_i o4 o5 o6_0 o6_1 o7_0 o7_1 o8 o8_c => ∀ m0 m1 m2 : Nat, n ≤ m0 → n ≤ m1 → n ≤ m2 → ∀ gk : LK, TrK Tryd.prog GG Fence.wide (some B) 2 N (Fin Tryd.prog Tryd.f44 2 (.bool r.1) [some (.cells (consC c ++ probC q ++ [.ints pos, .msl 1 1 0 ln])), some (.ints r.2)]) (toN m2 (atNC (bodyC Tryd.f44) 12 [m0, m1])) ⟨frm 208 [(1, .ref 2 0), (3, .fn 62 1 (L1 [.ref 2 0])), (5, .msl 3 1 0 (((((c.cells.length : Nat) : Int) + 1)).toNat)), (7, .fn 63 1 (L1 [.ref 2 0])), (14, .it 4), (16, .int .i64 x16), (17, .it 5), (18, .ref 6 0), (19, .ref 7 0), (140, .it 8), (145, .msl 9 1 0 2), (146, .int .i64 2), (147, .int .i64 x147)], [some (.cells (consC c ++ probC q ++ [.ints pos, .msl 1 1 0 ln])), some (.ints o1), some (.cells [.ref 0 0]), some (.mo (.sets 2 o3 (some (o3_i, gk)))), some (.mo (.set 2 o4)), some (.mo (.set 2 o5)), some (.cells [.bool o6_0, .bool o6_1]), some (.cells [.int .i64 o7_0, .int .i64 o7_1]), some (.mo (.mit 2 gk.1 gk.2.1 gk.2.2 o8 (some o8_c))), some (.bools ([false, true] : List Bool))]⟩
  | .l8 x8 x59 o1 o3 o3_i o4 o4_c => ∀ m0 m1 : Nat, n ≤ m0 → n ≤ m1 → ∀ gk : LK, TrK Tryd.prog GG Fence.wide (some B) 2 N (Fin Tryd.prog Tryd.f44 2 (.bool r.1) [some (.cells (consC c ++ probC q ++ [.ints pos, .msl 1 1 0 ln])), some (.ints r.2)]) (toN m1 (atNC (bodyC Tryd.f44) 4 [m0])) ⟨frm 208 [(1, .ref 2 0), (3, .fn 62 1 (L1 [.ref 2 0])), (4, .int .i64 ((c.cells.length : Nat) : Int)), (5, .msl 3 1 0 (((((c.cells.length : Nat) : Int) + 1)).toNat)), (7, .fn 63 1 (L1 [.ref 2 0])), (8, .int .i64 x8), (58, .int .i64 ((c.cells.length : Nat) : Int)), (59, .int .i64 x59), (66, .it 4)], [some (.cells (consC c ++ probC q ++ [.ints pos, .msl 1 1 0 ln])), some (.ints o1), some (.cells [.ref 0 0]), some (.mo (.sets 2 o3 (some (o3_i, gk)))), some (.mo (.mit 2 gk.1 gk.2.1 gk.2.2 o4 (some o4_c)))]⟩
  | .l9 x16 o1 o3 o3_i o4 o5 o6_0 o6_1 o7 o7_c => ∀ m0 m1 : Nat, n ≤ m0 → n ≤ m1 → ∀ gk : LK, TrK Tryd.prog GG Fence.wide (some B) 2 N (Fin Tryd.prog Tryd.f44 2 (.bool r.1) [some (.cells (consC c ++ probC q ++ [.ints pos, .msl 1 1 0 ln])), some (.ints r.2)]) (toN m1 (atNC (bodyC Tryd.f44) 10 [m0])) ⟨frm 208 [(1, .ref 2 0), (3, .fn 62 1 (L1 [.ref 2 0])), (5, .msl 3 1 0 (((((c.cells.length : Nat) : Int) + 1)).toNat)), (7, .fn 63 1 (L1 [.ref 2 0])), (14, .it 4), (16, .int .i64 x16), (17, .it 5), (18, .ref 6 0), (140, .it 7)], [some (.cells (consC c ++ probC q ++ [.ints pos, .msl 1 1 0 ln])), some (.ints o1), some (.cells [.ref 0 0]), some (.mo (.sets 2 o3 (some (o3_i, gk)))), some (.mo (.set 2 o4)), some (.mo (.set 2 o5)), some (.cells [.bool o6_0, .bool o6_1]), some (.mo (.mit 2 gk.1 gk.2.1 gk.2.2 o7 (some o7_c)))]⟩
set_option maxRecDepth 100000 in
set_option maxHeartbeats 4000000 in
theorem runsW_p1 (n B : Nat) (N : Yard Tryd.prog GG 2) (self : runsWPt → Option (Bool × (List Int))) (c : ConsD) (q : ProbD) (pos : List Int) (ln : Nat) (lost : List Int) (hself : ∀ pt r, self pt = some r → runsW_at n B N c q pos ln lost r pt) (x45 : Int) (o3 : List (Option KS)) (r : Bool × (List Int)) (h : runsW_l1 n self c q pos ln lost x45 o3 = some r) : runsW_at (n + 1) B N c q pos ln lost r (.l1 x45 o3) := by
  have hX : HX Fence.wide Tryd.prog := ⟨FOk.wide, by kernel_rfl⟩
  intro m0 hm0
  refine TrK.round hm0 (by kernel_rfl) fun m0 hm0 => ?_
  unfold runsW_l1 at h
  rcases bifSome h with ⟨c0, h⟩ | ⟨c0, h⟩
  · obtain ⟨⟨g0, g1, g2⟩, h⟩ := guardSome h
    exact TrK.g hX sch_runsW 17 [1, 3, 4, 5, 44, 45] [0, 1, 2, 5] [] (.o 46 (DLe.bool c0) <| .g g0 <| .g g1 <| .o 52 (wr64 g2) <| .e) (hself (.l1 (x45 + 1) (o3.set (0 + ((x45).toNat)) (some ([] : KS)))) r h m0 hm0) (by kernel_rfl) (by kernel_rfl)
  · obtain ⟨⟨g0, g1, g2⟩, h⟩ := guardSome h
    exact TrK.g hX sch_runsW 18 [1, 3, 4, 5, 7, 58, 59] [0, 1, 2, 3] [] (.o 46 (DLe.bool c0) <| .g g0 <| .g g1 <| .g g2 <| .g (lkOff_none (i := 0 + 0)) <| .e) (TrK.enter n (by kernel_rfl) (hself (.l2 0 lost (o3.set (0 + 0) (some (putK [0, 0] ((o3.getD (0 + 0) none).getD []))))) r h n (Nat.le_refl _))) (by kernel_rfl) (by kernel_rfl)
set_option maxRecDepth 100000 in
set_option maxHeartbeats 4000000 in
theorem runsW_p2 (n B : Nat) (N : Yard Tryd.prog GG 2) (self : runsWPt → Option (Bool × (List Int))) (c : ConsD) (q : ProbD) (pos : List Int) (ln : Nat) (lost : List Int) (hself : ∀ pt r, self pt = some r → runsW_at n B N c q pos ln lost r pt) (x59 : Int) (o1 : List Int) (o3 : List (Option KS)) (r : Bool × (List Int)) (h : runsW_l2 n self c q pos ln lost x59 o1 o3 = some r) : runsW_at (n + 1) B N c q pos ln lost r (.l2 x59 o1 o3) := by
  have hX : HX Fence.wide Tryd.prog := ⟨FOk.wide, by kernel_rfl⟩
  intro m0 hm0
  refine TrK.round hm0 (by kernel_rfl) fun m0 hm0 => ?_
  unfold runsW_l2 at h
  rcases bifSome h with ⟨c0, h⟩ | ⟨c0, h⟩
  · obtain ⟨g0, h⟩ := guardSome h
    refine TrK.gS hX (stopAt 16 sch_runsW) 15 [1, 3, 4, 5, 7, 8, 58, 59] [0, 1, 2, 3] [] (.o 60 (DLe.bool c0) <| .e) [] .e (atGC (bodyC Tryd.f44) 16 [m0]) (frm 208 [(1, .ref 2 0), (3, .fn 62 1 (L1 [.ref 2 0])), (4, .int .i64 ((c.cells.length : Nat) : Int)), (5, .msl 3 1 0 (((((c.cells.length : Nat) : Int) + 1)).toNat)), (7, .fn 63 1 (L1 [.ref 2 0])), (8, .int .i64 x59), (58, .int .i64 ((c.cells.length : Nat) : Int)), (59, .int .i64 x59)]) (hp_runsW_0 c q pos ln o1 o3) (by kernel_rfl) (by kernel_rfl) ?_
    refine TrK.lock 3 (0 + ((x59).toNat)) 2 (by kernel_rfl) g0 (by kernel_rfl) (fun gk => (hp_runsW_1 c q pos ln o1 o3 x59 gk)) (by kernel_rfl) fun gk => ?_
    obtain ⟨⟨g1, g2, g3⟩, h⟩ := guardSome h
    exact TrK.g hX sch_runsW 7 [1, 3, 4, 5, 7, 8, 58, 59, 66] [0, 1, 2, 3, 4] [] (.g g1 <| .g g2 <| .g g3 <| .g (Eq.refl (0 + ((x59).toNat))) <| .e) (TrK.enter n (by kernel_rfl) (hself (.l3 x59 x59 o1 o3 (0 + ((x59).toNat)) ((o3.getD (0 + ((x59).toNat)) none).getD [])) r h m0 n hm0 (Nat.le_refl _) gk)) (by kernel_rfl) (by kernel_rfl)
  · rcases bifSome h with ⟨c1, h⟩ | ⟨c1, h⟩
    · obtain ⟨⟨g0, g1, g2⟩, h⟩ := guardSome h
      exact TrK.g hX sch_runsW 23 [1, 3, 5, 7, 14, 16] [0, 1, 2, 3, 4] [] (.o 60 (DLe.bool c0) <| .o 115 (DLe.bool c1) <| .o 118 (wr64 g0) <| .o 125 (wr64 g0) <| .g g1 <| .o 130 (wr64 g2) <| .e) (TrK.enter n (by kernel_rfl) (hself (.l4 (((c.cells.length : Nat) : Int) - 1) o1 o3 (putK [(((c.runs.length : Nat) : Int) - 1), c.runs.getD (((((c.runs.length : Nat) : Int) - 1)).toNat) 0] (putK [((c.runs.length : Nat) : Int), 0] ([] : KS)))) r h n (Nat.le_refl _))) (by kernel_rfl) (by kernel_rfl)
    · obtain ⟨g0, h⟩ := guardSome h
      exact TrK.g hX sch_runsW 23 [1, 3, 5, 7, 14, 16] [0, 1, 2, 3, 4] [] (.o 60 (DLe.bool c0) <| .o 115 (DLe.bool c1) <| .o 130 (wr64 g0) <| .e) (TrK.enter n (by kernel_rfl) (hself (.l4 (((c.cells.length : Nat) : Int) - 1) o1 o3 (putK [((c.runs.length : Nat) : Int), 0] ([] : KS))) r h n (Nat.le_refl _))) (by kernel_rfl) (by kernel_rfl)
set_option maxRecDepth 100000 in
set_option maxHeartbeats 4000000 in
theorem runsW_p3 (n B : Nat) (N : Yard Tryd.prog GG 2) (self : runsWPt → Option (Bool × (List Int))) (c : ConsD) (q : ProbD) (pos : List Int) (ln : Nat) (lost : List Int) (hself : ∀ pt r, self pt = some r → runsW_at n B N c q pos ln lost r pt) (x8 x59 : Int) (o1 : List Int) (o3 : List (Option KS)) (o3_i : Nat) (o4 : KS) (r : Bool × (List Int)) (h : runsW_l3 n self c q pos ln lost x8 x59 o1 o3 o3_i o4 = some r) : runsW_at (n + 1) B N c q pos ln lost r (.l3 x8 x59 o1 o3 o3_i o4) := by
  have hX : HX Fence.wide Tryd.prog := ⟨FOk.wide, by kernel_rfl⟩
  intro m0 m1 hm0 hm1
  intro gk
  have hm0 := Nat.le_of_succ_le hm0
  refine TrK.round hm1 (by kernel_rfl) fun m1 hm1 => ?_
  unfold runsW_l3 at h
  refine TrK.gS hX (stopAt 17 sch_runsW) 6 [1, 3, 4, 5, 7, 8, 58, 59, 66] [0, 1, 2, 3, 4] [] .e [] .e (atGC (bodyC Tryd.f44) 17 [m0, m1]) (frm 208 [(1, .ref 2 0), (3, .fn 62 1 (L1 [.ref 2 0])), (4, .int .i64 ((c.cells.length : Nat) : Int)), (5, .msl 3 1 0 (((((c.cells.length : Nat) : Int) + 1)).toNat)), (7, .fn 63 1 (L1 [.ref 2 0])), (8, .int .i64 x8), (58, .int .i64 ((c.cells.length : Nat) : Int)), (59, .int .i64 x59), (66, .it 4)]) (hp_runsW_2 c q pos ln o1 o3 o3_i gk o4) (by kernel_rfl) (by kernel_rfl) ?_
  obtain ⟨g0, h⟩ := guardSome h
  have h := onNext_spec h
  refine TrG.nx (ops := regF Tryd.f44 17) hX (by kernel_rfl) (by kernel_rfl) 4 3 o3_i 2 o3 gk o4 none [1, 3, 4, 5, 7, 8, 58, 59, 66, 68] [0, 1, 2, 3] (frm 208 [(1, .ref 2 0), (3, .fn 62 1 (L1 [.ref 2 0])), (4, .int .i64 ((c.cells.length : Nat) : Int)), (5, .msl 3 1 0 (((((c.cells.length : Nat) : Int) + 1)).toNat)), (7, .fn 63 1 (L1 [.ref 2 0])), (8, .int .i64 x8), (58, .int .i64 ((c.cells.length : Nat) : Int)), (59, .int .i64 x59), (68, .bool false)]) (hp_runsW_0 c q pos ln o1 o3) [0, 1, 2, 3, 4] (fun y1 => frm 208 [(1, .ref 2 0), (3, .fn 62 1 (L1 [.ref 2 0])), (4, .int .i64 ((c.cells.length : Nat) : Int)), (5, .msl 3 1 0 (((((c.cells.length : Nat) : Int) + 1)).toNat)), (7, .fn 63 1 (L1 [.ref 2 0])), (8, .int .i64 x8), (58, .int .i64 ((c.cells.length : Nat) : Int)), (59, .int .i64 x59), (66, .it 4), (68, .bool true)]) (fun y1 => (hp_runsW_3 c q pos ln o1 o3 o3_i gk o4 y1)) (by kernel_rfl) (by kernel_rfl) (by kernel_rfl) (by decide) g0 (by kernel_rfl) (by kernel_rfl) (fun _ => by kernel_rfl) (fun he => ?_) (fun y1 he => ?_)
  · replace h := h.1 he
    obtain ⟨g1, h⟩ := guardSome h
    exact TrK.g hX sch_runsW 10 [1, 3, 4, 5, 7, 58, 59] [0, 1, 2, 3] [] (.o 98 (wr64 g1) <| .e) (hself (.l2 (x59 + 1) o1 o3) r h m0 hm0) (by kernel_rfl) (by kernel_rfl)
  · replace h := h.2 y1 he
    obtain ⟨g1, h⟩ := guardSome h
    exact TrK.g hX sch_runsW 14 [1, 3, 4, 5, 7, 8, 9, 58, 59, 66, 71, 72, 73] [0, 1, 2, 3, 5, 4, 6] [] (.g g1 <| .g (Eq.refl gk.1) <| .g (Eq.refl gk.2.1) <| .g (Eq.refl gk.2.2) <| .g trivial <| .e) (TrK.enter n (by kernel_rfl) (hself (.l5 x8 x59 0 o1 o3 o3_i (y1.getD 0 0) (y1.getD 1 0) (o4.erase y1) y1) r h m0 m1 n hm0 hm1 (Nat.le_refl _) gk)) (by kernel_rfl) (by kernel_rfl)
set_option maxRecDepth 100000 in
set_option maxHeartbeats 4000000 in
theorem runsW_p4 (n B : Nat) (N : Yard Tryd.prog GG 2) (self : runsWPt → Option (Bool × (List Int))) (c : ConsD) (q : ProbD) (pos : List Int) (ln : Nat) (lost : List Int) (hself : ∀ pt r, self pt = some r → runsW_at n B N c q pos ln lost r pt) (x16 : Int) (o1 : List Int) (o3 : List (Option KS)) (o4 : KS) (r : Bool × (List Int)) (h : runsW_l4 n self c q pos ln lost x16 o1 o3 o4 = some r) : runsW_at (n + 1) B N c q pos ln lost r (.l4 x16 o1 o3 o4) := by
  have hX : HX Fence.wide Tryd.prog := ⟨FOk.wide, by kernel_rfl⟩
  intro m0 hm0
  refine TrK.round hm0 (by kernel_rfl) fun m0 hm0 => ?_
  unfold runsW_l4 at h
  rcases bifSome h with ⟨c0, h⟩ | ⟨c0, h⟩
  · obtain ⟨g0, h⟩ := guardSome h
    refine TrK.gS hX (stopAt 36 sch_runsW) 18 [1, 3, 5, 7, 14, 16, 17, 18] [0, 1, 2, 3, 4, 5, 6] [] (.o 132 (DLe.bool c0) <| .e) [] .e (atGC (bodyC Tryd.f44) 36 [m0]) (frm 208 [(1, .ref 2 0), (3, .fn 62 1 (L1 [.ref 2 0])), (5, .msl 3 1 0 (((((c.cells.length : Nat) : Int) + 1)).toNat)), (7, .fn 63 1 (L1 [.ref 2 0])), (14, .it 4), (16, .int .i64 x16), (17, .it 5), (18, .ref 6 0)]) (hp_runsW_4 c q pos ln o1 o3 o4) (by kernel_rfl) (by kernel_rfl) ?_
    refine TrK.lock 3 (0 + ((x16).toNat)) 2 (by kernel_rfl) g0 (by kernel_rfl) (fun gk => (hp_runsW_5 c q pos ln o1 o3 x16 gk o4)) (by kernel_rfl) fun gk => ?_
    obtain ⟨⟨g1, g2, g3⟩, h⟩ := guardSome h
    exact TrK.g hX sch_runsW 7 [1, 3, 5, 7, 14, 16, 17, 18, 140] [0, 1, 2, 3, 4, 5, 6, 7] [] (.g g1 <| .g g2 <| .g g3 <| .g (Eq.refl (0 + ((x16).toNat))) <| .e) (TrK.enter n (by kernel_rfl) (hself (.l6 x16 o1 o3 (0 + ((x16).toNat)) o4 ((o3.getD (0 + ((x16).toNat)) none).getD [])) r h m0 n hm0 (Nat.le_refl _) gk)) (by kernel_rfl) (by kernel_rfl)
  · cases h
    exact TrK.e hX sch_runsW 12 [2] [0, 1] [] (.o 132 (DLe.bool c0) <| .e) [] .e (by kernel_rfl)
set_option maxRecDepth 100000 in
set_option maxHeartbeats 4000000 in
theorem runsW_p5 (n B : Nat) (N : Yard Tryd.prog GG 2) (self : runsWPt → Option (Bool × (List Int))) (c : ConsD) (q : ProbD) (pos : List Int) (ln : Nat) (lost : List Int) (hself : ∀ pt r, self pt = some r → runsW_at n B N c q pos ln lost r pt) (x8 x59 x73 : Int) (o1 : List Int) (o3 : List (Option KS)) (o3_i : Nat) (o4_0 o4_1 : Int) (o5 : KS) (o5_c : List Int) (r : Bool × (List Int)) (h : runsW_l5 n self c q pos ln lost x8 x59 x73 o1 o3 o3_i o4_0 o4_1 o5 o5_c = some r) : runsW_at (n + 1) B N c q pos ln lost r (.l5 x8 x59 x73 o1 o3 o3_i o4_0 o4_1 o5 o5_c) := by
  have hX : HX Fence.wide Tryd.prog := ⟨FOk.wide, by kernel_rfl⟩
  intro m0 m1 m2 hm0 hm1 hm2
  intro gk
  have hm0 := Nat.le_of_succ_le hm0
  have hm1 := Nat.le_of_succ_le hm1
  refine TrK.round hm2 (by kernel_rfl) fun m2 hm2 => ?_
  unfold runsW_l5 at h
  rcases bifSome h with ⟨c0, h⟩ | ⟨c0, h⟩
  · obtain ⟨⟨g0, g1⟩, h⟩ := guardSome h
    obtain ⟨y1, hy1, h⟩ := bindSome h
    rcases bifSome h with ⟨c1, h⟩ | ⟨c1, h⟩
    · obtain ⟨y2, hy2, h⟩ := bindSome h
      rcases bifSome h with ⟨c2, h⟩ | ⟨c2, h⟩
      · obtain ⟨⟨g2, g3, g4, g5, g6, g7⟩, h⟩ := guardSome h
        exact TrK.g hX sch_runsW 22 [1, 3, 4, 5, 7, 8, 9, 58, 59, 66, 71, 72, 73] [0, 1, 2, 3, 4, 5, 6] [] (.o 74 (DLe.bool c0) <| .g g0 <| .g g1 <| .c (ES.emC (nextF_ok (o4_0, o4_1) (([false, true] : List Bool).getD (0 + ((x73).toNat)) false) c q pos ln o1 hy1) [2, 0, 1] (hp_runsW_6 c q pos ln o1 o3 o3_i gk o4_0 o4_1 o5 o5_c) (by kernel_rfl) (by kernel_rfl)) <| .o 83 (DLe.bool c1) <| .g trivial <| .c (ES.emC (kindF_ok x8 (([false, true] : List Bool).getD (0 + ((x73).toNat)) false) c q pos ln y1.2.2 hy2) [2, 0, 1] (hp_runsW_7 c q pos ln y1 o3 o3_i gk o4_0 o4_1 o5 o5_c) (by kernel_rfl) (by kernel_rfl)) <| .o 89 (DLe.bool c2) <| .g s_runsW_24 <| .o 93 (wr64 g2) <| .g g3 <| .g g4 <| .g g6 <| .g (lkOff_some (g := gk) g5) <| .o 97 (wr64 g7) <| .e) (hself (.l5 x8 x59 (x73 + 1) y2.2 (o3.set (0 + (((x8 + 1)).toNat)) (some (putK [y1.1.1, y1.1.2] ((o3.getD (0 + (((x8 + 1)).toNat)) none).getD [])))) o3_i o4_0 o4_1 o5 o5_c) r h m0 m1 m2 hm0 hm1 hm2 gk) (by kernel_rfl) (by kernel_rfl)
      · obtain ⟨g2, h⟩ := guardSome h
        exact TrK.g hX sch_runsW 22 [1, 3, 4, 5, 7, 8, 9, 58, 59, 66, 71, 72, 73] [0, 1, 2, 3, 4, 5, 6] [] (.o 74 (DLe.bool c0) <| .g g0 <| .g g1 <| .c (ES.emC (nextF_ok (o4_0, o4_1) (([false, true] : List Bool).getD (0 + ((x73).toNat)) false) c q pos ln o1 hy1) [2, 0, 1] (hp_runsW_6 c q pos ln o1 o3 o3_i gk o4_0 o4_1 o5 o5_c) (by kernel_rfl) (by kernel_rfl)) <| .o 83 (DLe.bool c1) <| .g trivial <| .c (ES.emC (kindF_ok x8 (([false, true] : List Bool).getD (0 + ((x73).toNat)) false) c q pos ln y1.2.2 hy2) [2, 0, 1] (hp_runsW_7 c q pos ln y1 o3 o3_i gk o4_0 o4_1 o5 o5_c) (by kernel_rfl) (by kernel_rfl)) <| .o 89 (DLe.bool c2) <| .o 97 (wr64 g2) <| .e) (hself (.l5 x8 x59 (x73 + 1) y2.2 o3 o3_i o4_0 o4_1 o5 o5_c) r h m0 m1 m2 hm0 hm1 hm2 gk) (by kernel_rfl) (by kernel_rfl)
    · obtain ⟨g2, h⟩ := guardSome h
      exact TrK.g hX sch_runsW 22 [1, 3, 4, 5, 7, 8, 9, 58, 59, 66, 71, 72, 73] [0, 1, 2, 3, 4, 5, 6] [] (.o 74 (DLe.bool c0) <| .g g0 <| .g g1 <| .c (ES.emC (nextF_ok (o4_0, o4_1) (([false, true] : List Bool).getD (0 + ((x73).toNat)) false) c q pos ln o1 hy1) [2, 0, 1] (hp_runsW_6 c q pos ln o1 o3 o3_i gk o4_0 o4_1 o5 o5_c) (by kernel_rfl) (by kernel_rfl)) <| .o 83 (DLe.bool c1) <| .g trivial <| .o 97 (wr64 g2) <| .e) (hself (.l5 x8 x59 (x73 + 1) y1.2.2 o3 o3_i o4_0 o4_1 o5 o5_c) r h m0 m1 m2 hm0 hm1 hm2 gk) (by kernel_rfl) (by kernel_rfl)
  · exact TrK.g hX sch_runsW 11 [1, 3, 4, 5, 7, 8, 58, 59, 66] [0, 1, 2, 3, 5] [] (.o 74 (DLe.bool c0) <| .e) (hself (.l8 x8 x59 o1 o3 o3_i o5 o5_c) r h m0 m1 hm0 hm1 gk) (by kernel_rfl) (by kernel_rfl)
set_option maxRecDepth 100000 in
set_option maxHeartbeats 4000000 in
theorem runsW_p6 (n B : Nat) (N : Yard Tryd.prog GG 2) (self : runsWPt → Option (Bool × (List Int))) (c : ConsD) (q : ProbD) (pos : List Int) (ln : Nat) (lost : List Int) (hself : ∀ pt r, self pt = some r → runsW_at n B N c q pos ln lost r pt) (x16 : Int) (o1 : List Int) (o3 : List (Option KS)) (o3_i : Nat) (o4 o7 : KS) (r : Bool × (List Int)) (h : runsW_l6 n self c q pos ln lost x16 o1 o3 o3_i o4 o7 = some r) : runsW_at (n + 1) B N c q pos ln lost r (.l6 x16 o1 o3 o3_i o4 o7) := by
  have hX : HX Fence.wide Tryd.prog := ⟨FOk.wide, by kernel_rfl⟩
  intro m0 m1 hm0 hm1
  intro gk
  have hm0 := Nat.le_of_succ_le hm0
  refine TrK.round hm1 (by kernel_rfl) fun m1 hm1 => ?_
  unfold runsW_l6 at h
  refine TrK.gS hX (stopAt 37 sch_runsW) 6 [1, 3, 5, 7, 14, 16, 17, 18, 140] [0, 1, 2, 3, 4, 5, 6, 7] [] .e [] .e (atGC (bodyC Tryd.f44) 37 [m0, m1]) (frm 208 [(1, .ref 2 0), (3, .fn 62 1 (L1 [.ref 2 0])), (5, .msl 3 1 0 (((((c.cells.length : Nat) : Int) + 1)).toNat)), (7, .fn 63 1 (L1 [.ref 2 0])), (14, .it 4), (16, .int .i64 x16), (17, .it 5), (18, .ref 6 0), (140, .it 7)]) (hp_runsW_8 c q pos ln o1 o3 o3_i gk o4 o7) (by kernel_rfl) (by kernel_rfl) ?_
  obtain ⟨g0, h⟩ := guardSome h
  have h := onNext_spec h
  refine TrG.nx (ops := regF Tryd.f44 37) hX (by kernel_rfl) (by kernel_rfl) 7 3 o3_i 2 o3 gk o7 none [1, 3, 5, 7, 14, 16, 17, 18, 140, 142] [0, 1, 2, 3, 4, 5, 6] (frm 208 [(1, .ref 2 0), (3, .fn 62 1 (L1 [.ref 2 0])), (5, .msl 3 1 0 (((((c.cells.length : Nat) : Int) + 1)).toNat)), (7, .fn 63 1 (L1 [.ref 2 0])), (14, .it 4), (16, .int .i64 x16), (17, .it 5), (18, .ref 6 0), (142, .bool false)]) (hp_runsW_4 c q pos ln o1 o3 o4) [0, 1, 2, 3, 4, 5, 6, 7] (fun y1 => frm 208 [(1, .ref 2 0), (3, .fn 62 1 (L1 [.ref 2 0])), (5, .msl 3 1 0 (((((c.cells.length : Nat) : Int) + 1)).toNat)), (7, .fn 63 1 (L1 [.ref 2 0])), (14, .it 4), (16, .int .i64 x16), (17, .it 5), (18, .ref 6 0), (140, .it 7), (142, .bool true)]) (fun y1 => (hp_runsW_12 c q pos ln o1 o3 o3_i gk o4 o7 y1)) (by kernel_rfl) (by kernel_rfl) (by kernel_rfl) (by decide) g0 (by kernel_rfl) (by kernel_rfl) (fun _ => by kernel_rfl) (fun he => ?_) (fun y1 he => ?_)
  · replace h := h.1 he
    obtain ⟨g1, h⟩ := guardSome h
    obtain ⟨y2, hy2, h⟩ := bindSome h
    obtain ⟨y3, hy3, h⟩ := bindSome h
    obtain ⟨g2, h⟩ := guardSome h
    exact TrK.g hX sch_runsW 21 [1, 3, 5, 7, 14, 16] [0, 1, 2, 3, 5] [([], (tgt_runsW_9 c x16 q pos ln y2 o3 o4)), ([], (tgt_runsW_11 c x16 q pos ln y3 o3 o4))] (.g (by decide : (0 : Int) ≤ 1 ∧ 1 < ((2 : Nat) : Int)) <| .g s_runsW_49 <| .g g1 <| .c (ES.emC (loseW_ok (c.cells.getD ((x16).toNat) 0) c.set c q pos ln o1 hy2) [0, 1] (hp_runsW_4 c q pos ln o1 o3 o4) (by kernel_rfl) (by kernel_rfl)) <| .g (Eq.refl (tgt_runsW_9 c x16 q pos ln y2 o3 o4)) <| .g (by decide : (0 : Int) ≤ 0 ∧ 0 < ((2 : Nat) : Int)) <| .g s_runsW_51 <| .g g1 <| .c (ES.emC (onlyW_ok (c.cells.getD ((x16).toNat) 0) c q pos ln y2 hy3) [0, 1] (hp_runsW_10 c q pos ln y2 o3 o4) (by kernel_rfl) (by kernel_rfl)) <| .g (Eq.refl (tgt_runsW_11 c x16 q pos ln y3 o3 o4)) <| .o 134 (wr64 g2) <| .e) (hself (.l4 (x16 - 1) y3 o3 ([] : KS)) r h m0 hm0) (by kernel_rfl) (by kernel_rfl)
  · replace h := h.2 y1 he
    obtain ⟨g1, h⟩ := guardSome h
    exact TrK.g hX sch_runsW 14 [1, 3, 5, 7, 14, 16, 17, 18, 19, 140, 145, 146, 147] [0, 1, 2, 3, 4, 5, 6, 8, 7, 9] [] (.g g1 <| .g (Eq.refl gk.1) <| .g (Eq.refl gk.2.1) <| .g (Eq.refl gk.2.2) <| .g trivial <| .e) (TrK.enter n (by kernel_rfl) (hself (.l7 x16 0 o1 o3 o3_i o4 ([] : KS) false false (y1.getD 0 0) (y1.getD 1 0) (o7.erase y1) y1) r h m0 m1 n hm0 hm1 (Nat.le_refl _) gk)) (by kernel_rfl) (by kernel_rfl)
set_option maxRecDepth 100000 in
set_option maxHeartbeats 4000000 in
theorem runsW_p7 (n B : Nat) (N : Yard Tryd.prog GG 2) (self : runsWPt → Option (Bool × (List Int))) (c : ConsD) (q : ProbD) (pos : List Int) (ln : Nat) (lost : List Int) (hself : ∀ pt r, self pt = some r → runsW_at n B N c q pos ln lost r pt) (x16 x147 : Int) (o1 : List Int) (o3 : List (Option KS)) (o3_i : Nat) (o4 o5 : KS) (o6_0 o6_1 : Bool) (o7_0 o7_1 : Int) (o8 : KS) (o8_c : List Int) (r : Bool × (List Int)) (h : runsW_l7 n self c q pos ln lost x16 x147 o1 o3 o3_i o4 o5 o6_0 o6_1 o7_0 o7_1 o8 o8_c = some r) : runsW_at (n + 1) B N c q pos ln lost r (.l7 x16 x147 o1 o3 o3_i o4 o5 o6_0 o6_1 o7_0 o7_1 o8 o8_c) := by
  have hX : HX Fence.wide Tryd.prog := ⟨FOk.wide, by kernel_rfl⟩
  intro m0 m1 m2 hm0 hm1 hm2
  intro gk
  have hm0 := Nat.le_of_succ_le hm0
  have hm1 := Nat.le_of_succ_le hm1
  refine TrK.round hm2 (by kernel_rfl) fun m2 hm2 => ?_
  unfold runsW_l7 at h
  rcases bifSome h with ⟨c0, h⟩ | ⟨c0, h⟩
  · obtain ⟨⟨g0, g1⟩, h⟩ := guardSome h
    obtain ⟨y1, hy1, h⟩ := bindSome h
    rcases bifSome h with ⟨c1, h⟩ | ⟨c1, h⟩
    · obtain ⟨y2, hy2, h⟩ := bindSome h
      rcases bifSome h with ⟨c2, h⟩ | ⟨c2, h⟩
      · rcases bifSome h with ⟨c3, h⟩ | ⟨c3, h⟩
        · rcases bifSome h with ⟨c4, h⟩ | ⟨c4, h⟩
          · obtain ⟨g2, h⟩ := guardSome h
            exact TrK.g hX sch_runsW 24 [1, 3, 5, 7, 14, 16, 17, 18, 19, 140, 145, 146, 147] [0, 1, 2, 3, 4, 5, 6, 7, 8, 9] [] (.o 148 (DLe.bool c0) <| .o 149 (DLe.int (k := .i64) (eq_of_beq c4)) <| .g g0 <| .g g1 <| .c (ES.emC (nextF_ok (o7_0, o7_1) (([false, true] : List Bool).getD (0 + ((x147).toNat)) false) c q pos ln o1 hy1) [2, 0, 1] (hp_runsW_13 c q pos ln o1 o3 o3_i gk o4 o5 o6_0 o6_1 o7_0 o7_1 o8 o8_c) (by kernel_rfl) (by kernel_rfl)) <| .o 158 (DLe.bool c1) <| .g trivial <| .c (ES.emC (kindF_ok x16 (([false, true] : List Bool).getD (0 + ((x147).toNat)) false) c q pos ln y1.2.2 hy2) [2, 0, 1] (hp_runsW_14 c q pos ln y1 o3 o3_i gk o4 o5 o6_0 o6_1 o7_0 o7_1 o8 o8_c) (by kernel_rfl) (by kernel_rfl)) <| .o 164 (DLe.bool c2) <| .o 169 (DLe.bool c3) <| .g (by decide : (0 : Int) ≤ 0 ∧ 0 < ((2 : Nat) : Int)) <| .g trivial <| .o 175 (wr64 g2) <| .e) (hself (.l7 x16 (x147 + 1) y2.2 o3 o3_i o4 (putK [o7_0, o7_1] o5) true o6_1 o7_0 o7_1 o8 o8_c) r h m0 m1 m2 hm0 hm1 hm2 gk) (by kernel_rfl) (by kernel_rfl)
          · rcases bifSome h with ⟨c6, h⟩ | ⟨c6, h⟩
            · obtain ⟨g2, h⟩ := guardSome h
              exact TrK.g hX sch_runsW 24 [1, 3, 5, 7, 14, 16, 17, 18, 19, 140, 145, 146, 147] [0, 1, 2, 3, 4, 5, 6, 7, 8, 9] [] (.o 148 (DLe.bool c0) <| .o 149 (DLe.int (k := .i64) (eq_of_beq c6)) <| .g g0 <| .g g1 <| .c (ES.emC (nextF_ok (o7_0, o7_1) (([false, true] : List Bool).getD (0 + ((x147).toNat)) false) c q pos ln o1 hy1) [2, 0, 1] (hp_runsW_13 c q pos ln o1 o3 o3_i gk o4 o5 o6_0 o6_1 o7_0 o7_1 o8 o8_c) (by kernel_rfl) (by kernel_rfl)) <| .o 158 (DLe.bool c1) <| .g trivial <| .c (ES.emC (kindF_ok x16 (([false, true] : List Bool).getD (0 + ((x147).toNat)) false) c q pos ln y1.2.2 hy2) [2, 0, 1] (hp_runsW_14 c q pos ln y1 o3 o3_i gk o4 o5 o6_0 o6_1 o7_0 o7_1 o8 o8_c) (by kernel_rfl) (by kernel_rfl)) <| .o 164 (DLe.bool c2) <| .o 169 (DLe.bool c3) <| .g (by decide : (0 : Int) ≤ 1 ∧ 1 < ((2 : Nat) : Int)) <| .g trivial <| .o 175 (wr64 g2) <| .e) (hself (.l7 x16 (x147 + 1) y2.2 o3 o3_i o4 (putK [o7_0, o7_1] o5) o6_0 true o7_0 o7_1 o8 o8_c) r h m0 m1 m2 hm0 hm1 hm2 gk) (by kernel_rfl) (by kernel_rfl)
            · cases h
        · obtain ⟨g2, h⟩ := guardSome h
          exact TrK.g hX sch_runsW 22 [1, 3, 5, 7, 14, 16, 17, 18, 19, 140, 145, 146, 147] [0, 1, 2, 3, 4, 5, 6, 7, 8, 9] [] (.o 148 (DLe.bool c0) <| .g g0 <| .g g1 <| .c (ES.emC (nextF_ok (o7_0, o7_1) (([false, true] : List Bool).getD (0 + ((x147).toNat)) false) c q pos ln o1 hy1) [2, 0, 1] (hp_runsW_13 c q pos ln o1 o3 o3_i gk o4 o5 o6_0 o6_1 o7_0 o7_1 o8 o8_c) (by kernel_rfl) (by kernel_rfl)) <| .o 158 (DLe.bool c1) <| .g trivial <| .c (ES.emC (kindF_ok x16 (([false, true] : List Bool).getD (0 + ((x147).toNat)) false) c q pos ln y1.2.2 hy2) [2, 0, 1] (hp_runsW_14 c q pos ln y1 o3 o3_i gk o4 o5 o6_0 o6_1 o7_0 o7_1 o8 o8_c) (by kernel_rfl) (by kernel_rfl)) <| .o 164 (DLe.bool c2) <| .o 169 (DLe.bool c3) <| .o 175 (wr64 g2) <| .e) (hself (.l7 x16 (x147 + 1) y2.2 o3 o3_i o4 o5 o6_0 o6_1 o7_0 o7_1 o8 o8_c) r h m0 m1 m2 hm0 hm1 hm2 gk) (by kernel_rfl) (by kernel_rfl)
      · obtain ⟨g2, h⟩ := guardSome h
        exact TrK.g hX sch_runsW 22 [1, 3, 5, 7, 14, 16, 17, 18, 19, 140, 145, 146, 147] [0, 1, 2, 3, 4, 5, 6, 7, 8, 9] [] (.o 148 (DLe.bool c0) <| .g g0 <| .g g1 <| .c (ES.emC (nextF_ok (o7_0, o7_1) (([false, true] : List Bool).getD (0 + ((x147).toNat)) false) c q pos ln o1 hy1) [2, 0, 1] (hp_runsW_13 c q pos ln o1 o3 o3_i gk o4 o5 o6_0 o6_1 o7_0 o7_1 o8 o8_c) (by kernel_rfl) (by kernel_rfl)) <| .o 158 (DLe.bool c1) <| .g trivial <| .c (ES.emC (kindF_ok x16 (([false, true] : List Bool).getD (0 + ((x147).toNat)) false) c q pos ln y1.2.2 hy2) [2, 0, 1] (hp_runsW_14 c q pos ln y1 o3 o3_i gk o4 o5 o6_0 o6_1 o7_0 o7_1 o8 o8_c) (by kernel_rfl) (by kernel_rfl)) <| .o 164 (DLe.bool c2) <| .o 175 (wr64 g2) <| .e) (hself (.l7 x16 (x147 + 1) y2.2 o3 o3_i o4 o5 o6_0 o6_1 o7_0 o7_1 o8 o8_c) r h m0 m1 m2 hm0 hm1 hm2 gk) (by kernel_rfl) (by kernel_rfl)
    · obtain ⟨g2, h⟩ := guardSome h
      exact TrK.g hX sch_runsW 22 [1, 3, 5, 7, 14, 16, 17, 18, 19, 140, 145, 146, 147] [0, 1, 2, 3, 4, 5, 6, 7, 8, 9] [] (.o 148 (DLe.bool c0) <| .g g0 <| .g g1 <| .c (ES.emC (nextF_ok (o7_0, o7_1) (([false, true] : List Bool).getD (0 + ((x147).toNat)) false) c q pos ln o1 hy1) [2, 0, 1] (hp_runsW_13 c q pos ln o1 o3 o3_i gk o4 o5 o6_0 o6_1 o7_0 o7_1 o8 o8_c) (by kernel_rfl) (by kernel_rfl)) <| .o 158 (DLe.bool c1) <| .g trivial <| .o 175 (wr64 g2) <| .e) (hself (.l7 x16 (x147 + 1) y1.2.2 o3 o3_i o4 o5 o6_0 o6_1 o7_0 o7_1 o8 o8_c) r h m0 m1 m2 hm0 hm1 hm2 gk) (by kernel_rfl) (by kernel_rfl)
  · exact TrK.g hX sch_runsW 11 [1, 3, 5, 7, 14, 16, 17, 18, 140] [0, 1, 2, 3, 4, 5, 6, 8] [] (.o 148 (DLe.bool c0) <| .e) (hself (.l9 x16 o1 o3 o3_i o4 o5 o6_0 o6_1 o8 o8_c) r h m0 m1 hm0 hm1 gk) (by kernel_rfl) (by kernel_rfl)
set_option maxRecDepth 100000 in
set_option maxHeartbeats 4000000 in
theorem runsW_p8 (n B : Nat) (N : Yard Tryd.prog GG 2) (self : runsWPt → Option (Bool × (List Int))) (c : ConsD) (q : ProbD) (pos : List Int) (ln : Nat) (lost : List Int) (hself : ∀ pt r, self pt = some r → runsW_at n B N c q pos ln lost r pt) (x8 x59 : Int) (o1 : List Int) (o3 : List (Option KS)) (o3_i : Nat) (o4 : KS) (o4_c : List Int) (r : Bool × (List Int)) (h : runsW_l8 n self c q pos ln lost x8 x59 o1 o3 o3_i o4 o4_c = some r) : runsW_at (n + 1) B N c q pos ln lost r (.l8 x8 x59 o1 o3 o3_i o4 o4_c) := by
  have hX : HX Fence.wide Tryd.prog := ⟨FOk.wide, by kernel_rfl⟩
  intro m0 m1 hm0 hm1
  intro gk
  have hm0 := Nat.le_of_succ_le hm0
  refine TrK.round hm1 (by kernel_rfl) fun m1 hm1 => ?_
  unfold runsW_l8 at h
  refine TrK.gS hX (stopAt 17 sch_runsW) 6 [1, 3, 4, 5, 7, 8, 58, 59, 66] [0, 1, 2, 3, 4] [] .e [] .e (atGC (bodyC Tryd.f44) 17 [m0, m1]) (frm 208 [(1, .ref 2 0), (3, .fn 62 1 (L1 [.ref 2 0])), (4, .int .i64 ((c.cells.length : Nat) : Int)), (5, .msl 3 1 0 (((((c.cells.length : Nat) : Int) + 1)).toNat)), (7, .fn 63 1 (L1 [.ref 2 0])), (8, .int .i64 x8), (58, .int .i64 ((c.cells.length : Nat) : Int)), (59, .int .i64 x59), (66, .it 4)]) (hp_runsW_15 c q pos ln o1 o3 o3_i gk o4 o4_c) (by kernel_rfl) (by kernel_rfl) ?_
  obtain ⟨g0, h⟩ := guardSome h
  have h := onNext_spec h
  refine TrG.nx (ops := regF Tryd.f44 17) hX (by kernel_rfl) (by kernel_rfl) 4 3 o3_i 2 o3 gk o4 (some o4_c) [1, 3, 4, 5, 7, 8, 58, 59, 66, 68] [0, 1, 2, 3] (frm 208 [(1, .ref 2 0), (3, .fn 62 1 (L1 [.ref 2 0])), (4, .int .i64 ((c.cells.length : Nat) : Int)), (5, .msl 3 1 0 (((((c.cells.length : Nat) : Int) + 1)).toNat)), (7, .fn 63 1 (L1 [.ref 2 0])), (8, .int .i64 x8), (58, .int .i64 ((c.cells.length : Nat) : Int)), (59, .int .i64 x59), (68, .bool false)]) (hp_runsW_0 c q pos ln o1 o3) [0, 1, 2, 3, 4] (fun y1 => frm 208 [(1, .ref 2 0), (3, .fn 62 1 (L1 [.ref 2 0])), (4, .int .i64 ((c.cells.length : Nat) : Int)), (5, .msl 3 1 0 (((((c.cells.length : Nat) : Int) + 1)).toNat)), (7, .fn 63 1 (L1 [.ref 2 0])), (8, .int .i64 x8), (58, .int .i64 ((c.cells.length : Nat) : Int)), (59, .int .i64 x59), (66, .it 4), (68, .bool true)]) (fun y1 => (hp_runsW_3 c q pos ln o1 o3 o3_i gk o4 y1)) (by kernel_rfl) (by kernel_rfl) (by kernel_rfl) (by decide) g0 (by kernel_rfl) (by kernel_rfl) (fun _ => by kernel_rfl) (fun he => ?_) (fun y1 he => ?_)
  · replace h := h.1 he
    obtain ⟨g1, h⟩ := guardSome h
    exact TrK.g hX sch_runsW 10 [1, 3, 4, 5, 7, 58, 59] [0, 1, 2, 3] [] (.o 98 (wr64 g1) <| .e) (hself (.l2 (x59 + 1) o1 o3) r h m0 hm0) (by kernel_rfl) (by kernel_rfl)
  · replace h := h.2 y1 he
    obtain ⟨g1, h⟩ := guardSome h
    exact TrK.g hX sch_runsW 14 [1, 3, 4, 5, 7, 8, 9, 58, 59, 66, 71, 72, 73] [0, 1, 2, 3, 5, 4, 6] [] (.g g1 <| .g (Eq.refl gk.1) <| .g (Eq.refl gk.2.1) <| .g (Eq.refl gk.2.2) <| .g trivial <| .e) (TrK.enter n (by kernel_rfl) (hself (.l5 x8 x59 0 o1 o3 o3_i (y1.getD 0 0) (y1.getD 1 0) (o4.erase y1) y1) r h m0 m1 n hm0 hm1 (Nat.le_refl _) gk)) (by kernel_rfl) (by kernel_rfl)
set_option maxRecDepth 100000 in
set_option maxHeartbeats 4000000 in
theorem runsW_p9 (n B : Nat) (N : Yard Tryd.prog GG 2) (self : runsWPt → Option (Bool × (List Int))) (c : ConsD) (q : ProbD) (pos : List Int) (ln : Nat) (lost : List Int) (hself : ∀ pt r, self pt = some r → runsW_at n B N c q pos ln lost r pt) (x16 : Int) (o1 : List Int) (o3 : List (Option KS)) (o3_i : Nat) (o4 o5 : KS) (o6_0 o6_1 : Bool) (o7 : KS) (o7_c : List Int) (r : Bool × (List Int)) (h : runsW_l9 n self c q pos ln lost x16 o1 o3 o3_i o4 o5 o6_0 o6_1 o7 o7_c = some r) : runsW_at (n + 1) B N c q pos ln lost r (.l9 x16 o1 o3 o3_i o4 o5 o6_0 o6_1 o7 o7_c) := by
  have hX : HX Fence.wide Tryd.prog := ⟨FOk.wide, by kernel_rfl⟩
  intro m0 m1 hm0 hm1
  intro gk
  have hm0 := Nat.le_of_succ_le hm0
  refine TrK.round hm1 (by kernel_rfl) fun m1 hm1 => ?_
  unfold runsW_l9 at h
  refine TrK.gS hX (stopAt 37 sch_runsW) 6 [1, 3, 5, 7, 14, 16, 17, 18, 140] [0, 1, 2, 3, 4, 5, 6, 7] [] .e [] .e (atGC (bodyC Tryd.f44) 37 [m0, m1]) (frm 208 [(1, .ref 2 0), (3, .fn 62 1 (L1 [.ref 2 0])), (5, .msl 3 1 0 (((((c.cells.length : Nat) : Int) + 1)).toNat)), (7, .fn 63 1 (L1 [.ref 2 0])), (14, .it 4), (16, .int .i64 x16), (17, .it 5), (18, .ref 6 0), (140, .it 7)]) (hp_runsW_16 c q pos ln o1 o3 o3_i gk o4 o5 o6_0 o6_1 o7 o7_c) (by kernel_rfl) (by kernel_rfl) ?_
  obtain ⟨g0, h⟩ := guardSome h
  have h := onNext_spec h
  refine TrG.nx (ops := regF Tryd.f44 37) hX (by kernel_rfl) (by kernel_rfl) 7 3 o3_i 2 o3 gk o7 (some o7_c) [1, 3, 5, 7, 14, 16, 17, 18, 140, 142] [0, 1, 2, 3, 4, 5, 6] (frm 208 [(1, .ref 2 0), (3, .fn 62 1 (L1 [.ref 2 0])), (5, .msl 3 1 0 (((((c.cells.length : Nat) : Int) + 1)).toNat)), (7, .fn 63 1 (L1 [.ref 2 0])), (14, .it 4), (16, .int .i64 x16), (17, .it 5), (18, .ref 6 0), (142, .bool false)]) (hp_runsW_17 c q pos ln o1 o3 o4 o5 o6_0 o6_1) [0, 1, 2, 3, 4, 5, 6, 7] (fun y1 => frm 208 [(1, .ref 2 0), (3, .fn 62 1 (L1 [.ref 2 0])), (5, .msl 3 1 0 (((((c.cells.length : Nat) : Int) + 1)).toNat)), (7, .fn 63 1 (L1 [.ref 2 0])), (14, .it 4), (16, .int .i64 x16), (17, .it 5), (18, .ref 6 0), (140, .it 7), (142, .bool true)]) (fun y1 => (hp_runsW_22 c q pos ln o1 o3 o3_i gk o4 o5 o6_0 o6_1 o7 y1)) (by kernel_rfl) (by kernel_rfl) (by kernel_rfl) (by decide) g0 (by kernel_rfl) (by kernel_rfl) (fun _ => by kernel_rfl) (fun he => ?_) (fun y1 he => ?_)
  · replace h := h.1 he
    rcases bifSome h with ⟨c0, h⟩ | ⟨c0, h⟩
    · obtain ⟨g1, h⟩ := guardSome h
      obtain ⟨y2, hy2, h⟩ := bindSome h
      rcases bifSome h with ⟨c1, h⟩ | ⟨c1, h⟩
      · obtain ⟨y3, hy3, h⟩ := bindSome h
        obtain ⟨g2, h⟩ := guardSome h
        exact TrK.g hX sch_runsW 21 [1, 3, 5, 7, 14, 16] [0, 1, 2, 3, 5] [([], (tgt_runsW_18 c x16 q pos ln y2 o3 o4 o5 o6_0 o6_1)), ([], (tgt_runsW_20 c x16 q pos ln y3 o3 o4 o5 o6_0 o6_1))] (.g (by decide : (0 : Int) ≤ 1 ∧ 1 < ((2 : Nat) : Int)) <| .o 179 (DLe.bool c0) <| .g s_runsW_49 <| .g g1 <| .c (ES.emC (loseW_ok (c.cells.getD ((x16).toNat) 0) c.set c q pos ln o1 hy2) [0, 1] (hp_runsW_17 c q pos ln o1 o3 o4 o5 o6_0 o6_1) (by kernel_rfl) (by kernel_rfl)) <| .g (Eq.refl (tgt_runsW_18 c x16 q pos ln y2 o3 o4 o5 o6_0 o6_1)) <| .g (by decide : (0 : Int) ≤ 0 ∧ 0 < ((2 : Nat) : Int)) <| .o 197 (DLe.bool c1) <| .g s_runsW_51 <| .g g1 <| .c (ES.emC (onlyW_ok (c.cells.getD ((x16).toNat) 0) c q pos ln y2 hy3) [0, 1] (hp_runsW_19 c q pos ln y2 o3 o4 o5 o6_0 o6_1) (by kernel_rfl) (by kernel_rfl)) <| .g (Eq.refl (tgt_runsW_20 c x16 q pos ln y3 o3 o4 o5 o6_0 o6_1)) <| .o 134 (wr64 g2) <| .e) (hself (.l4 (x16 - 1) y3 o3 o5) r h m0 hm0) (by kernel_rfl) (by kernel_rfl)
      · obtain ⟨g2, h⟩ := guardSome h
        exact TrK.g hX sch_runsW 21 [1, 3, 5, 7, 14, 16] [0, 1, 2, 3, 5] [([], (tgt_runsW_18 c x16 q pos ln y2 o3 o4 o5 o6_0 o6_1))] (.g (by decide : (0 : Int) ≤ 1 ∧ 1 < ((2 : Nat) : Int)) <| .o 179 (DLe.bool c0) <| .g s_runsW_49 <| .g g1 <| .c (ES.emC (loseW_ok (c.cells.getD ((x16).toNat) 0) c.set c q pos ln o1 hy2) [0, 1] (hp_runsW_17 c q pos ln o1 o3 o4 o5 o6_0 o6_1) (by kernel_rfl) (by kernel_rfl)) <| .g (Eq.refl (tgt_runsW_18 c x16 q pos ln y2 o3 o4 o5 o6_0 o6_1)) <| .g (by decide : (0 : Int) ≤ 0 ∧ 0 < ((2 : Nat) : Int)) <| .o 197 (DLe.bool c1) <| .o 134 (wr64 g2) <| .e) (hself (.l4 (x16 - 1) y2 o3 o5) r h m0 hm0) (by kernel_rfl) (by kernel_rfl)
    · rcases bifSome h with ⟨c1, h⟩ | ⟨c1, h⟩
      · obtain ⟨g1, h⟩ := guardSome h
        obtain ⟨y2, hy2, h⟩ := bindSome h
        obtain ⟨g2, h⟩ := guardSome h
        exact TrK.g hX sch_runsW 21 [1, 3, 5, 7, 14, 16] [0, 1, 2, 3, 5] [([], (tgt_runsW_21 c x16 q pos ln y2 o3 o4 o5 o6_0 o6_1))] (.g (by decide : (0 : Int) ≤ 1 ∧ 1 < ((2 : Nat) : Int)) <| .o 179 (DLe.bool c0) <| .g (by decide : (0 : Int) ≤ 0 ∧ 0 < ((2 : Nat) : Int)) <| .o 197 (DLe.bool c1) <| .g s_runsW_51 <| .g g1 <| .c (ES.emC (onlyW_ok (c.cells.getD ((x16).toNat) 0) c q pos ln o1 hy2) [0, 1] (hp_runsW_17 c q pos ln o1 o3 o4 o5 o6_0 o6_1) (by kernel_rfl) (by kernel_rfl)) <| .g (Eq.refl (tgt_runsW_21 c x16 q pos ln y2 o3 o4 o5 o6_0 o6_1)) <| .o 134 (wr64 g2) <| .e) (hself (.l4 (x16 - 1) y2 o3 o5) r h m0 hm0) (by kernel_rfl) (by kernel_rfl)
      · obtain ⟨g1, h⟩ := guardSome h
        exact TrK.g hX sch_runsW 21 [1, 3, 5, 7, 14, 16] [0, 1, 2, 3, 5] [] (.g (by decide : (0 : Int) ≤ 1 ∧ 1 < ((2 : Nat) : Int)) <| .o 179 (DLe.bool c0) <| .g (by decide : (0 : Int) ≤ 0 ∧ 0 < ((2 : Nat) : Int)) <| .o 197 (DLe.bool c1) <| .o 134 (wr64 g1) <| .e) (hself (.l4 (x16 - 1) o1 o3 o5) r h m0 hm0) (by kernel_rfl) (by kernel_rfl)
  · replace h := h.2 y1 he
    obtain ⟨g1, h⟩ := guardSome h
    exact TrK.g hX sch_runsW 14 [1, 3, 5, 7, 14, 16, 17, 18, 19, 140, 145, 146, 147] [0, 1, 2, 3, 4, 5, 6, 8, 7, 9] [] (.g g1 <| .g (Eq.refl gk.1) <| .g (Eq.refl gk.2.1) <| .g (Eq.refl gk.2.2) <| .g trivial <| .e) (TrK.enter n (by kernel_rfl) (hself (.l7 x16 0 o1 o3 o3_i o4 o5 o6_0 o6_1 (y1.getD 0 0) (y1.getD 1 0) (o7.erase y1) y1) r h m0 m1 n hm0 hm1 (Nat.le_refl _) gk)) (by kernel_rfl) (by kernel_rfl)
theorem runsW_all (B : Nat) (N : Yard Tryd.prog GG 2) (c : ConsD) (q : ProbD) (pos : List Int) (ln : Nat) (lost : List Int) : ∀ (n : Nat) (pt : runsWPt) (r : Bool × (List Int)), runsW_m c q pos ln lost n pt = some r → runsW_at n B N c q pos ln lost r pt
  | 0, _, _, h => by cases h
  | n + 1, .l1 x45 o3, r, h => runsW_p1 n B N (runsW_m c q pos ln lost n) c q pos ln lost (runsW_all B N c q pos ln lost n) x45 o3 r h
  | n + 1, .l2 x59 o1 o3, r, h => runsW_p2 n B N (runsW_m c q pos ln lost n) c q pos ln lost (runsW_all B N c q pos ln lost n) x59 o1 o3 r h
  | n + 1, .l3 x8 x59 o1 o3 o3_i o4, r, h => runsW_p3 n B N (runsW_m c q pos ln lost n) c q pos ln lost (runsW_all B N c q pos ln lost n) x8 x59 o1 o3 o3_i o4 r h
  | n + 1, .l4 x16 o1 o3 o4, r, h => runsW_p4 n B N (runsW_m c q pos ln lost n) c q pos ln lost (runsW_all B N c q pos ln lost n) x16 o1 o3 o4 r h
  | n + 1, .l5 x8 x59 x73 o1 o3 o3_i o4_0 o4_1 o5 o5_c, r, h => runsW_p5 n B N (runsW_m c q pos ln lost n) c q pos ln lost (runsW_all B N c q pos ln lost n) x8 x59 x73 o1 o3 o3_i o4_0 o4_1 o5 o5_c r h
  | n + 1, .l6 x16 o1 o3 o3_i o4 o7, r, h => runsW_p6 n B N (runsW_m c q pos ln lost n) c q pos ln lost (runsW_all B N c q pos ln lost n) x16 o1 o3 o3_i o4 o7 r h
  | n + 1, .l7 x16 x147 o1 o3 o3_i o4 o5 o6_0 o6_1 o7_0 o7_1 o8 o8_c, r, h => runsW_p7 n B N (runsW_m c q pos ln lost n) c q pos ln lost (runsW_all B N c q pos ln lost n) x16 x147 o1 o3 o3_i o4 o5 o6_0 o6_1 o7_0 o7_1 o8 o8_c r h
  | n + 1, .l8 x8 x59 o1 o3 o3_i o4 o4_c, r, h => runsW_p8 n B N (runsW_m c q pos ln lost n) c q pos ln lost (runsW_all B N c q pos ln lost n) x8 x59 o1 o3 o3_i o4 o4_c r h
  | n + 1, .l9 x16 o1 o3 o3_i o4 o5 o6_0 o6_1 o7 o7_c, r, h => runsW_p9 n B N (runsW_m c q pos ln lost n) c q pos ln lost (runsW_all B N c q pos ln lost n) x16 o1 o3 o3_i o4 o5 o6_0 o6_1 o7 o7_c r h
set_option maxRecDepth 100000 in
set_option maxHeartbeats 4000000 in
theorem runsW_ok {n : Nat} (c : ConsD) (q : ProbD) (pos : List Int) (ln : Nat) (lost : List Int) {r : Bool × (List Int)} (h : runsW n c q pos ln lost = some r) : ES Tryd.prog GG 44 [.ref 0 0] [some (.cells (consC c ++ probC q ++ [.ints pos, .msl 1 1 0 ln])), some (.ints lost)] (.bool r.1) [some (.cells (consC c ++ probC q ++ [.ints pos, .msl 1 1 0 ln])), some (.ints r.2)] false := by
  have hX : HX Fence.wide Tryd.prog := ⟨FOk.wide, by kernel_rfl⟩
  refine ES.of_trk Tryd.func44 (by kernel_rfl) (by kernel_rfl) (noIterB (by kernel_rfl)) (fun e => by cases e) fun B N => ?_
  have hself := runsW_all B N c q pos ln lost n
  unfold runsW at h
  generalize runsW_m c q pos ln lost n = self at h hself
  unfold runsW_l0 at h
  rcases bifSome h with ⟨c0, h⟩ | ⟨c0, h⟩
  · cases h
    exact TrK.e hX sch_runsW 17 [2] [0, 1] [] (.o 32 (DLe.bool c0) <| .e) [] .e (by kernel_rfl)
  · obtain ⟨⟨g0, g1⟩, h⟩ := guardSome h
    exact TrK.g hX sch_runsW 22 [1, 3, 4, 5, 44, 45] [0, 1, 2, 3] [] (.o 32 (DLe.bool c0) <| .o 41 (wr64 g0) <| .g g1 <| .e) (TrK.enter n (by kernel_rfl) (hself (.l1 0 (List.replicate (((((c.cells.length : Nat) : Int) + 1)).toNat) (none : Option KS))) r h n (Nat.le_refl _))) (by kernel_rfl) (by kernel_rfl)


end Go.Proofs.YtekkngkphejfcaaDoor
