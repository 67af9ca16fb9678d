/- Functions read off the code: pruning: RiseC. -/
import Derived.Test.YtekkngkphejfcaaDoorHg
namespace Go.Proofs.YtekkngkphejfcaaDoor
open Go.RowKit

def t_riseW_2 : ST := .rd 0 (.rd 1 (.rd 3 (.rd 4 (.ef 2 (.ef 5 (.ef 6 (.ef 7 (.ef 8 (.ef 9 (.fin [0, 1, 2, 3] [1, 3, 4, 5, 58, 91, 92, 104, 148]) (.no)) (.no)) (.no)) (.ef 7 (.ef 6 (.ef 8 (.ef 9 (.fin [0, 1, 3, 2] [1, 3, 4, 5, 58, 91, 92, 104, 148]) (.no)) (.no)) (.no)) (.no))) (.ef 6 (.ef 5 (.ef 7 (.ef 8 (.ef 9 (.fin [0, 2, 1, 3] [1, 3, 4, 5, 58, 91, 92, 104, 148]) (.no)) (.no)) (.no)) (.ef 7 (.ef 5 (.ef 8 (.ef 9 (.fin [0, 3, 1, 2] [1, 3, 4, 5, 58, 91, 92, 104, 148]) (.no)) (.no)) (.ef 8 (.ef 5 (.ef 9 (.fin [0, 3, 1, 2] [1, 3, 4, 5, 58, 91, 92, 104, 148]) (.no)) (.no)) (.no))) (.no))) (.ef 7 (.ef 5 (.ef 6 (.ef 8 (.ef 9 (.fin [0, 2, 3, 1] [1, 3, 4, 5, 58, 91, 92, 104, 148]) (.no)) (.no)) (.no)) (.ef 6 (.ef 5 (.ef 8 (.ef 9 (.fin [0, 3, 2, 1] [1, 3, 4, 5, 58, 91, 92, 104, 148]) (.no)) (.no)) (.ef 8 (.ef 5 (.ef 9 (.fin [0, 3, 2, 1] [1, 3, 4, 5, 58, 91, 92, 104, 148]) (.no)) (.no)) (.no))) (.no))) (.no)))) (.ef 5 (.ef 2 (.ef 6 (.ef 7 (.ef 8 (.ef 9 (.fin [1, 0, 2, 3] [1, 3, 4, 5, 58, 91, 92, 104, 148]) (.no)) (.no)) (.no)) (.ef 7 (.ef 6 (.ef 8 (.ef 9 (.fin [1, 0, 3, 2] [1, 3, 4, 5, 58, 91, 92, 104, 148]) (.no)) (.no)) (.no)) (.no))) (.ef 6 (.ef 2 (.ef 7 (.ef 8 (.ef 9 (.fin [2, 0, 1, 3] [1, 3, 4, 5, 58, 91, 92, 104, 148]) (.no)) (.no)) (.no)) (.ef 7 (.ef 2 (.ef 8 (.ef 9 (.fin [3, 0, 1, 2] [1, 3, 4, 5, 58, 91, 92, 104, 148]) (.no)) (.no)) (.no)) (.no))) (.ef 7 (.ef 2 (.ef 6 (.ef 8 (.ef 9 (.fin [2, 0, 3, 1] [1, 3, 4, 5, 58, 91, 92, 104, 148]) (.no)) (.no)) (.no)) (.ef 6 (.ef 2 (.ef 8 (.ef 9 (.fin [3, 0, 2, 1] [1, 3, 4, 5, 58, 91, 92, 104, 148]) (.no)) (.no)) (.no)) (.no))) (.no)))) (.ef 6 (.ef 2 (.ef 5 (.ef 7 (.ef 8 (.ef 9 (.fin [1, 2, 0, 3] [1, 3, 4, 5, 58, 91, 92, 104, 148]) (.no)) (.no)) (.no)) (.ef 7 (.ef 5 (.ef 8 (.ef 9 (.fin [1, 3, 0, 2] [1, 3, 4, 5, 58, 91, 92, 104, 148]) (.no)) (.no)) (.ef 8 (.ef 5 (.ef 9 (.fin [1, 3, 0, 2] [1, 3, 4, 5, 58, 91, 92, 104, 148]) (.no)) (.no)) (.no))) (.no))) (.ef 5 (.ef 2 (.ef 7 (.ef 8 (.ef 9 (.fin [2, 1, 0, 3] [1, 3, 4, 5, 58, 91, 92, 104, 148]) (.no)) (.no)) (.no)) (.ef 7 (.ef 2 (.ef 8 (.ef 9 (.fin [3, 1, 0, 2] [1, 3, 4, 5, 58, 91, 92, 104, 148]) (.no)) (.no)) (.no)) (.no))) (.ef 7 (.ef 2 (.ef 5 (.ef 8 (.ef 9 (.fin [2, 3, 0, 1] [1, 3, 4, 5, 58, 91, 92, 104, 148]) (.no)) (.no)) (.ef 8 (.ef 5 (.ef 9 (.fin [2, 3, 0, 1] [1, 3, 4, 5, 58, 91, 92, 104, 148]) (.no)) (.no)) (.no))) (.ef 5 (.ef 2 (.ef 8 (.ef 9 (.fin [3, 2, 0, 1] [1, 3, 4, 5, 58, 91, 92, 104, 148]) (.no)) (.no)) (.no)) (.no))) (.no)))) (.ef 7 (.ef 2 (.ef 5 (.ef 6 (.ef 8 (.ef 9 (.fin [1, 2, 3, 0] [1, 3, 4, 5, 58, 91, 92, 104, 148]) (.no)) (.no)) (.no)) (.ef 6 (.ef 5 (.ef 8 (.ef 9 (.fin [1, 3, 2, 0] [1, 3, 4, 5, 58, 91, 92, 104, 148]) (.no)) (.no)) (.ef 8 (.ef 5 (.ef 9 (.fin [1, 3, 2, 0] [1, 3, 4, 5, 58, 91, 92, 104, 148]) (.no)) (.no)) (.no))) (.no))) (.ef 5 (.ef 2 (.ef 6 (.ef 8 (.ef 9 (.fin [2, 1, 3, 0] [1, 3, 4, 5, 58, 91, 92, 104, 148]) (.no)) (.no)) (.no)) (.ef 6 (.ef 2 (.ef 8 (.ef 9 (.fin [3, 1, 2, 0] [1, 3, 4, 5, 58, 91, 92, 104, 148]) (.no)) (.no)) (.no)) (.no))) (.ef 6 (.ef 2 (.ef 5 (.ef 8 (.ef 9 (.fin [2, 3, 1, 0] [1, 3, 4, 5, 58, 91, 92, 104, 148]) (.no)) (.no)) (.ef 8 (.ef 5 (.ef 9 (.fin [2, 3, 1, 0] [1, 3, 4, 5, 58, 91, 92, 104, 148]) (.no)) (.no)) (.no))) (.ef 5 (.ef 2 (.ef 8 (.ef 9 (.fin [3, 2, 1, 0] [1, 3, 4, 5, 58, 91, 92, 104, 148]) (.no)) (.no)) (.no)) (.no))) (.no)))) (.no))))))))
def a_riseW_2 : Prop := TOk (regF Tryd.f43 2) [2, 5, 6, 7, 8] t_riseW_2
theorem s_riseW_2 : a_riseW_2 := by unfold a_riseW_2 TOk; kernel_rfl
def t_riseW_3 : ST := .rd 0 (.rd 1 (.rd 2 (.rd 3 (.ef 4 (.rd 5 (.ef 6 (.fin [] [1, 4, 5, 58, 91, 92, 104, 148]) (.no))) (.no)))))
def a_riseW_3 : Prop := TOk (regF Tryd.f43 3) [4] t_riseW_3
theorem s_riseW_3 : a_riseW_3 := by unfold a_riseW_3 TOk; kernel_rfl
def a_riseW_12 : Prop := SOk (regF Tryd.f43 12) [] [0, 1, 2, 3, 4, 5, 6, 7, 8, 9, 10] [11]
theorem s_riseW_12 : a_riseW_12 := by unfold a_riseW_12 SOk; kernel_rfl
def a_riseW_22 : Prop := SOk (regF Tryd.f43 22) [] [0, 1, 2, 3, 4, 5, 6, 7, 8] [9]
theorem s_riseW_22 : a_riseW_22 := by unfold a_riseW_22 SOk; kernel_rfl
def a_riseW_26 : Prop := SOk (regF Tryd.f43 26) [([0, 1, 2, 3, 4, 5, 6], 7)] [] []
theorem s_riseW_26 : a_riseW_26 := by unfold a_riseW_26 SOk; kernel_rfl
def t_riseW_30 : ST := .rd 0 (.rd 1 (.rd 2 (.rd 3 (.ef 4 (.fin [] [2]) (.no)))))
def a_riseW_30 : Prop := TOk (regF Tryd.f43 30) [] t_riseW_30
theorem s_riseW_30 : a_riseW_30 := by unfold a_riseW_30 TOk; kernel_rfl
def sch_riseW : Sch := fun i => match i with
  | 2 => .tre [2, 5, 6, 7, 8] t_riseW_2
  | 3 => .tre [4] t_riseW_3
  | 12 => .ord [] [0, 1, 2, 3, 4, 5, 6, 7, 8, 9, 10] [11]
  | 22 => .ord [] [0, 1, 2, 3, 4, 5, 6, 7, 8] [9]
  | 26 => .ord [([0, 1, 2, 3, 4, 5, 6], 7)] [] []
  | 30 => .tre [] t_riseW_30
  | _ => .no
def tgt_riseW_0 (c : ConsD) (q : ProbD) (pos : List Int) (ln : Nat) (lost : List Int) : St := ⟨(frm 178 [(1, .ref 2 0), (3, .int .i64 ((c.cells.length : Nat) : Int)), (4, .ref 5 0), (5, .ref 6 0)]), ([some (.cells (consC c ++ probC q ++ [.ints pos, .msl 1 1 0 ln])), some (.ints lost), some (.cells [.ref 0 0]), some (.ints (List.replicate (((((c.cells.length : Nat) : Int) + 1)).toNat) (0 : Int))), some (.ints (List.replicate (((((c.cells.length : Nat) : Int) + 1)).toNat) (0 : Int))), some (.cells [.msl 3 1 0 (((((c.cells.length : Nat) : Int) + 1)).toNat)]), some (.cells [.msl 4 1 0 (((((c.cells.length : Nat) : Int) + 1)).toNat)])] : DH)⟩
def tgt_riseW_1 (c : ConsD) (q : ProbD) (pos : List Int) (ln : Nat) (lost : List Int) : St := ⟨(frm 178 [(1, .ref 2 0), (4, .ref 5 0), (5, .ref 6 0)]), ([some (.cells (consC c ++ probC q ++ [.ints pos, .msl 1 1 0 ln])), some (.ints lost), some (.cells [.ref 0 0]), some (.ints ((List.replicate (((((c.cells.length : Nat) : Int) + 1)).toNat) (0 : Int)).set (0 + 0) (-1))), some (.ints ((List.replicate (((((c.cells.length : Nat) : Int) + 1)).toNat) (0 : Int)).set (0 + c.cells.length) 100)), some (.cells [.msl 3 1 0 (((((c.cells.length : Nat) : Int) + 1)).toNat)]), some (.cells [.msl 4 1 0 (((((c.cells.length : Nat) : Int) + 1)).toNat)])] : DH)⟩
def hp_riseW_2 (c : ConsD) (q : ProbD) (pos : List Int) (ln : Nat) (lost o4 : List Int) (x41 : Int) : DH := [some (.cells (consC c ++ probC q ++ [.ints pos, .msl 1 1 0 ln])), some (.ints lost), some (.cells [.ref 0 0]), some (.cells [.msl 4 1 0 (((((c.cells.length : Nat) : Int) + 1)).toNat)]), some (.ints (o4.set (0 + (((x41 + 1)).toNat)) 100)), some (.cells [.msl 6 1 0 (((((c.cells.length : Nat) : Int) + 1)).toNat)]), some (.ints ((List.replicate (((((c.cells.length : Nat) : Int) + 1)).toNat) (0 : Int)).set (0 + c.cells.length) 100)), some (.cells [.int .i64 x41])]
def hp_riseW_3 (c : ConsD) (q : ProbD) (pos : List Int) (ln : Nat) (lost : List Int) (x41 : Int) (o4 : List Int) : DH := [some (.cells (consC c ++ probC q ++ [.ints pos, .msl 1 1 0 ln])), some (.ints lost), some (.cells [.ref 0 0]), some (.cells [.msl 7 1 0 (((((c.cells.length : Nat) : Int) + 1)).toNat)]), some (.cells [.msl 8 1 0 (((((c.cells.length : Nat) : Int) + 1)).toNat)]), some (.cells [.int .i64 x41]), some (.iter ((symsI (pos.getD ((c.cells.getD ((x41).toNat) 0).toNat) 0)).map encI)), some (.ints (o4.set (0 + (((x41 + 1)).toNat)) 100)), some (.ints ((List.replicate (((((c.cells.length : Nat) : Int) + 1)).toNat) (0 : Int)).set (0 + c.cells.length) 100))]
def hp_riseW_4 (c : ConsD) (q : ProbD) (pos : List Int) (ln : Nat) (lost o4 : List Int) : DH := [some (.cells (consC c ++ probC q ++ [.ints pos, .msl 1 1 0 ln])), some (.ints lost), some (.cells [.ref 0 0]), some (.cells [.msl 4 1 0 (((((c.cells.length : Nat) : Int) + 1)).toNat)]), some (.ints o4), some (.cells [.msl 6 1 0 (((((c.cells.length : Nat) : Int) + 1)).toNat)]), some (.ints ((List.replicate (((((c.cells.length : Nat) : Int) + 1)).toNat) (0 : Int)).set (0 + c.cells.length) 100))]
def hp_riseW_5 (c : ConsD) (q : ProbD) (pos : List Int) (ln : Nat) (lost : List Int) (y1 : List (Int × Int)) (o4 : List Int) : DH := [some (.cells (consC c ++ probC q ++ [.ints pos, .msl 1 1 0 ln])), some (.ints lost), some (.cells [.ref 0 0]), some (.cells [.msl 6 1 0 (((((c.cells.length : Nat) : Int) + 1)).toNat)]), some (.cells [.msl 7 1 0 (((((c.cells.length : Nat) : Int) + 1)).toNat)]), some (.iter ((y1).map encII)), some (.ints o4), some (.ints ((List.replicate (((((c.cells.length : Nat) : Int) + 1)).toNat) (0 : Int)).set (0 + c.cells.length) 100))]
def hp_riseW_6 (c : ConsD) (q : ProbD) (pos : List Int) (ln : Nat) (o1 o4 o6 : List Int) (x135 : Int) : DH := [some (.cells (consC c ++ probC q ++ [.ints pos, .msl 1 1 0 ln])), some (.ints o1), some (.cells [.ref 0 0]), some (.cells [.msl 4 1 0 (((((c.cells.length : Nat) : Int) + 1)).toNat)]), some (.ints o4), some (.cells [.msl 6 1 0 (((((c.cells.length : Nat) : Int) + 1)).toNat)]), some (.ints o6), some (.cells [.int .i64 x135]), some (.cells [.int .i64 (c.cells.getD ((x135).toNat) 0)])]
def hp_riseW_7 (c : ConsD) (q : ProbD) (pos : List Int) (ln : Nat) (o1 : List Int) (x135 : Int) (o4 o6 : List Int) : DH := [some (.cells (consC c ++ probC q ++ [.ints pos, .msl 1 1 0 ln])), some (.ints o1), some (.cells [.ref 0 0]), some (.cells [.msl 8 1 0 (((((c.cells.length : Nat) : Int) + 1)).toNat)]), some (.cells [.msl 9 1 0 (((((c.cells.length : Nat) : Int) + 1)).toNat)]), some (.cells [.int .i64 x135]), some (.cells [.int .i64 (c.cells.getD ((x135).toNat) 0)]), some (.iter ((symsI (pos.getD ((c.cells.getD ((x135).toNat) 0).toNat) 0)).map encI)), some (.ints o4), some (.ints o6)]
def hp_riseW_8 (c : ConsD) (q : ProbD) (pos : List Int) (ln : Nat) (lost : List Int) (x41 : Int) (r57s0_7 : List Int) : DH := [some (.cells (consC c ++ probC q ++ [.ints pos, .msl 1 1 0 ln])), some (.ints lost), some (.cells [.ref 0 0]), some (.cells [.msl 7 1 0 (((((c.cells.length : Nat) : Int) + 1)).toNat)]), some (.cells [.msl 8 1 0 (((((c.cells.length : Nat) : Int) + 1)).toNat)]), some (.cells [.int .i64 x41]), none, some (.ints r57s0_7), some (.ints ((List.replicate (((((c.cells.length : Nat) : Int) + 1)).toNat) (0 : Int)).set (0 + c.cells.length) 100))]
def hp_riseW_9 (c : ConsD) (q : ProbD) (pos : List Int) (ln : Nat) (lost o4 r90s0_7 : List Int) (e90 : Int × Int) : DH := [some (.cells (consC c ++ probC q ++ [.ints pos, .msl 1 1 0 ln])), some (.ints lost), some (.cells [.ref 0 0]), some (.cells [.msl 6 1 0 (((((c.cells.length : Nat) : Int) + 1)).toNat)]), some (.cells [.msl 7 1 0 (((((c.cells.length : Nat) : Int) + 1)).toNat)]), none, some (.ints o4), some (.ints r90s0_7), some (.cells [.int .i64 e90.1])]
def hp_riseW_10 (c : ConsD) (q : ProbD) (pos : List Int) (ln : Nat) (lost o4 r90s0_7 : List Int) (e90 : Int × Int) : DH := [some (.cells (consC c ++ probC q ++ [.ints pos, .msl 1 1 0 ln])), some (.ints lost), some (.cells [.ref 0 0]), some (.cells [.msl 6 1 0 (((((c.cells.length : Nat) : Int) + 1)).toNat)]), some (.cells [.msl 7 1 0 (((((c.cells.length : Nat) : Int) + 1)).toNat)]), none, some (.ints o4), some (.ints (r90s0_7.set (0 + ((e90.1).toNat)) (-1))), some (.cells [.int .i64 e90.1])]
def hp_riseW_11 (c : ConsD) (q : ProbD) (pos : List Int) (ln : Nat) (lost : List Int) (e90 : Int × Int) (o4 r90s0_7 : List Int) : DH := [some (.cells (consC c ++ probC q ++ [.ints pos, .msl 1 1 0 ln])), some (.ints lost), some (.cells [.ref 0 0]), some (.cells [.msl 8 1 0 (((((c.cells.length : Nat) : Int) + 1)).toNat)]), some (.cells [.msl 9 1 0 (((((c.cells.length : Nat) : Int) + 1)).toNat)]), none, some (.cells [.int .i64 e90.1]), some (.iter ((symsI (pos.getD ((e90.2).toNat) 0)).map encI)), some (.ints o4), some (.ints (r90s0_7.set (0 + ((e90.1).toNat)) (-1)))]
def hp_riseW_12 (c : ConsD) (q : ProbD) (pos : List Int) (ln : Nat) (r147s0_1 : List Int) (x135 : Int) (o4 o6 : List Int) : DH := [some (.cells (consC c ++ probC q ++ [.ints pos, .msl 1 1 0 ln])), some (.ints r147s0_1), some (.cells [.ref 0 0]), some (.cells [.msl 8 1 0 (((((c.cells.length : Nat) : Int) + 1)).toNat)]), some (.cells [.msl 9 1 0 (((((c.cells.length : Nat) : Int) + 1)).toNat)]), some (.cells [.int .i64 x135]), some (.cells [.int .i64 (c.cells.getD ((x135).toNat) 0)]), none, some (.ints o4), some (.ints o6)]
def tgt_riseW_13 (c : ConsD) (q : ProbD) (pos : List Int) (ln : Nat) (b147_y1 : (List Int)) (x135 : Int) (o4 o6 : List Int) : St := ⟨(frm 178 []), ([some (.cells (consC c ++ probC q ++ [.ints pos, .msl 1 1 0 ln])), some (.ints b147_y1), some (.cells [.ref 0 0]), some (.cells [.msl 8 1 0 (((((c.cells.length : Nat) : Int) + 1)).toNat)]), some (.cells [.msl 9 1 0 (((((c.cells.length : Nat) : Int) + 1)).toNat)]), some (.cells [.int .i64 x135]), some (.cells [.int .i64 (c.cells.getD ((x135).toNat) 0)]), none, some (.ints o4), some (.ints o6)] : DH)⟩
def hp_riseW_14 (c : ConsD) (q : ProbD) (pos : List Int) (ln : Nat) (lost : List Int) (e90 : Int × Int) (o4 r103s0_9 : List Int) : DH := [some (.cells (consC c ++ probC q ++ [.ints pos, .msl 1 1 0 ln])), some (.ints lost), some (.cells [.ref 0 0]), some (.cells [.msl 8 1 0 (((((c.cells.length : Nat) : Int) + 1)).toNat)]), some (.cells [.msl 9 1 0 (((((c.cells.length : Nat) : Int) + 1)).toNat)]), none, some (.cells [.int .i64 e90.1]), none, some (.ints o4), some (.ints r103s0_9)]
inductive riseW_b90_b103T where
  | s0 (r103s0_9 : List Int)
def riseW_b90_b103_H (c : ConsD) (q : ProbD) (pos : List Int) (ln : Nat) (lost : List Int) (e90 : Int × Int) (o4 : List Int) : riseW_b90_b103T → DH
  | .s0 r103s0_9 => [some (.cells (consC c ++ probC q ++ [.ints pos, .msl 1 1 0 ln])), some (.ints lost), some (.cells [.ref 0 0]), some (.cells [.msl 8 1 0 (((((c.cells.length : Nat) : Int) + 1)).toNat)]), some (.cells [.msl 9 1 0 (((((c.cells.length : Nat) : Int) + 1)).toNat)]), none, some (.cells [.int .i64 e90.1]), none, some (.ints o4), some (.ints r103s0_9)]
def riseW_b90_b103_e0 (n : Nat) (c : ConsD) (q : ProbD) (pos : List Int) (ln : Nat) (lost : List Int) (e90 : Int × Int) (o4 : List Int) (e103 : Int) (r103s0_9 : List Int) : Option riseW_b90_b103T :=
  if ((0 : Int) ≤ e103 ∧ e103 < ((q.values.length : Nat) : Int)) ∧ R64 (e90.1 + 1) ∧ ((0 : Int) ≤ (e90.1 + 1) ∧ (e90.1 + 1) < ((((((c.cells.length : Nat) : Int) + 1)).toNat : Nat) : Int)) ∧ 0 + (((e90.1 + 1)).toNat) < r103s0_9.length then
   bif (decide ((q.values.getD ((e103).toNat) 0) < (r103s0_9.getD (0 + (((e90.1 + 1)).toNat)) 0))) then
    if ((0 : Int) ≤ e90.1 ∧ e90.1 < ((((((c.cells.length : Nat) : Int) + 1)).toNat : Nat) : Int)) ∧ 0 + ((e90.1).toNat) < r103s0_9.length then
     some (.s0 (r103s0_9.set (0 + ((e90.1).toNat)) (if (q.values.getD ((e103).toNat) 0) > (r103s0_9.getD (0 + ((e90.1).toNat)) 0) then (q.values.getD ((e103).toNat) 0) else (r103s0_9.getD (0 + ((e90.1).toNat)) 0))))
    else none
   else
    some (.s0 r103s0_9)
  else none
def riseW_b90_b103_l0 (n : Nat) (c : ConsD) (q : ProbD) (pos : List Int) (ln : Nat) (lost : List Int) (e90 : Int × Int) (o4 : List Int) (e103 : Int) : riseW_b90_b103T → Option riseW_b90_b103T
  | .s0 r103s0_9 => riseW_b90_b103_e0 n c q pos ln lost e90 o4 e103 r103s0_9
def riseW_b90_b103 (n : Nat) (c : ConsD) (q : ProbD) (pos : List Int) (ln : Nat) (lost : List Int) (e90 : Int × Int) (o4 : List Int) (e103 : Int) (s : riseW_b90_b103T) : Option riseW_b90_b103T := riseW_b90_b103_l0 n c q pos ln lost e90 o4 e103 s
set_option maxRecDepth 100000 in
set_option maxHeartbeats 4000000 in
theorem riseW_b90_b103_ok (l B : Nat) (N : Yard Tryd.prog GG 8) (n : Nat) (c : ConsD) (q : ProbD) (pos : List Int) (ln : Nat) (lost : List Int) (e90 : Int × Int) (o4 : List Int) (e103 : Int) (s : riseW_b90_b103T) (r : riseW_b90_b103T) (h : riseW_b90_b103 n c q pos ln lost e90 o4 e103 s = some r) : TrA Tryd.prog GG (Fence.wide.inRound l) (some B) 8 N (RndQ 8 [] 0 (riseW_b90_b103_H c q pos ln lost e90 o4 r)) (rgA Tryd.f43 103) (rgB Tryd.f43 103) ⟨frm 178 [(1, .ref 2 0), (5, .ref 4 0), (10, .ref 6 0), (103, .it 7), (104, .int .i64 e103)], riseW_b90_b103_H c q pos ln lost e90 o4 s⟩ := by
  have hX : HX (Fence.wide.inRound l) Tryd.prog := ⟨FOk.round l, by kernel_rfl⟩
  unfold riseW_b90_b103 at h
  cases s with
  | s0 r103s0_9 =>
    have h : riseW_b90_b103_e0 n c q pos ln lost e90 o4 e103 r103s0_9 = some r := h
    unfold riseW_b90_b103_e0 at h
    refine TrA.g hX sch_riseW 6 [1, 2, 5, 10, 12] [0, 1, 2, 3, 4, 5, 6, 7, 8, 9] .e (frm 178 [(1, .ref 2 0), (5, .ref 4 0), (10, .ref 6 0), (12, .int .i64 e103)]) (hp_riseW_14 c q pos ln lost e90 o4 r103s0_9) (by kernel_rfl) ?_
    intro N
    obtain ⟨⟨b103_g0, b103_g1, b103_g2, b103_g3⟩, h⟩ := guardSome h
    rcases bifSome h with ⟨b103_c0, h⟩ | ⟨b103_c0, h⟩
    · obtain ⟨⟨b103_g4, b103_g5⟩, h⟩ := guardSome h
      cases h
      exact TrK.r hX sch_riseW 13 [0, 1, 2, 3, 4, 5, 6, 7, 8, 9] [] (.g b103_g0 <| .o 116 (wr64 b103_g1) <| .g b103_g2 <| .g b103_g3 <| .o 119 (DLe.bool b103_c0) <| .g s_riseW_22 <| .g b103_g4 <| .g b103_g5 <| .g b103_g4 <| .g b103_g5 <| .e) rfl (by kernel_rfl)
    · cases h
      exact TrK.r hX sch_riseW 13 [0, 1, 2, 3, 4, 5, 6, 7, 8, 9] [] (.g b103_g0 <| .o 116 (wr64 b103_g1) <| .g b103_g2 <| .g b103_g3 <| .o 119 (DLe.bool b103_c0) <| .e) rfl (by kernel_rfl)


inductive riseW_b147T where
  | s0 (r147s0_1 : List Int)
def riseW_b147_H (c : ConsD) (x135 : Int) (q : ProbD) (pos : List Int) (ln : Nat) (o4 o6 : List Int) : riseW_b147T → DH
  | .s0 r147s0_1 => [some (.cells (consC c ++ probC q ++ [.ints pos, .msl 1 1 0 ln])), some (.ints r147s0_1), some (.cells [.ref 0 0]), some (.cells [.msl 8 1 0 (((((c.cells.length : Nat) : Int) + 1)).toNat)]), some (.cells [.msl 9 1 0 (((((c.cells.length : Nat) : Int) + 1)).toNat)]), some (.cells [.int .i64 x135]), some (.cells [.int .i64 (c.cells.getD ((x135).toNat) 0)]), none, some (.ints o4), some (.ints o6)]
def riseW_b147_e0 (n : Nat) (c : ConsD) (x135 : Int) (q : ProbD) (pos : List Int) (ln : Nat) (o4 o6 : List Int) (e147 : Int) (r147s0_1 : List Int) : Option riseW_b147T :=
  if ((0 : Int) ≤ e147 ∧ e147 < ((q.values.length : Nat) : Int)) ∧ ((0 : Int) ≤ x135 ∧ x135 < ((((((c.cells.length : Nat) : Int) + 1)).toNat : Nat) : Int)) ∧ 0 + ((x135).toNat) < o4.length then
   bif (decide ((q.values.getD ((e147).toNat) 0) ≤ (o4.getD (0 + ((x135).toNat)) 0))) then
    if (0 : Int) ≤ e147 ∧ e147 ≤ ((IntKind.i64.bits : Nat) : Int) then
     (loseW n (c.cells.getD ((x135).toNat) 0) (IntKind.i64.wrap (1 * 2 ^ (e147).toNat)) c q pos ln r147s0_1).bind fun b147_y1 =>
      some (.s0 b147_y1)
    else none
   else
    if R64 (x135 + 1) ∧ ((0 : Int) ≤ (x135 + 1) ∧ (x135 + 1) < ((((((c.cells.length : Nat) : Int) + 1)).toNat : Nat) : Int)) ∧ 0 + (((x135 + 1)).toNat) < o6.length then
     bif (decide ((q.values.getD ((e147).toNat) 0) ≥ (o6.getD (0 + (((x135 + 1)).toNat)) 0))) then
      if (0 : Int) ≤ e147 ∧ e147 ≤ ((IntKind.i64.bits : Nat) : Int) then
       (loseW n (c.cells.getD ((x135).toNat) 0) (IntKind.i64.wrap (1 * 2 ^ (e147).toNat)) c q pos ln r147s0_1).bind fun b147_y1 =>
        some (.s0 b147_y1)
      else none
     else
      some (.s0 r147s0_1)
    else none
  else none
def riseW_b147_l0 (n : Nat) (c : ConsD) (x135 : Int) (q : ProbD) (pos : List Int) (ln : Nat) (o4 o6 : List Int) (e147 : Int) : riseW_b147T → Option riseW_b147T
  | .s0 r147s0_1 => riseW_b147_e0 n c x135 q pos ln o4 o6 e147 r147s0_1
def riseW_b147 (n : Nat) (c : ConsD) (x135 : Int) (q : ProbD) (pos : List Int) (ln : Nat) (o4 o6 : List Int) (e147 : Int) (s : riseW_b147T) : Option riseW_b147T := riseW_b147_l0 n c x135 q pos ln o4 o6 e147 s
set_option maxRecDepth 100000 in
set_option maxHeartbeats 4000000 in
theorem riseW_b147_ok (l B : Nat) (N : Yard Tryd.prog GG 8) (n : Nat) (c : ConsD) (x135 : Int) (q : ProbD) (pos : List Int) (ln : Nat) (o4 o6 : List Int) (e147 : Int) (s : riseW_b147T) (r : riseW_b147T) (h : riseW_b147 n c x135 q pos ln o4 o6 e147 s = some r) : TrA Tryd.prog GG (Fence.wide.inRound l) (some B) 8 N (RndQ 8 [] 0 (riseW_b147_H c x135 q pos ln o4 o6 r)) (rgA Tryd.f43 147) (rgB Tryd.f43 147) ⟨frm 178 [(1, .ref 2 0), (4, .ref 3 0), (5, .ref 4 0), (14, .ref 5 0), (15, .ref 6 0), (133, .ints c.cells), (134, .int .i64 ((c.cells.length : Nat) : Int)), (135, .int .i64 x135), (147, .it 7), (148, .int .i64 e147)], riseW_b147_H c x135 q pos ln o4 o6 s⟩ := by
  have hX : HX (Fence.wide.inRound l) Tryd.prog := ⟨FOk.round l, by kernel_rfl⟩
  unfold riseW_b147 at h
  cases s with
  | s0 r147s0_1 =>
    have h : riseW_b147_e0 n c x135 q pos ln o4 o6 e147 r147s0_1 = some r := h
    unfold riseW_b147_e0 at h
    refine TrA.g hX sch_riseW 6 [1, 2, 4, 5, 14, 15, 16] [0, 1, 2, 3, 4, 5, 6, 7, 8, 9] .e (frm 178 [(1, .ref 2 0), (4, .ref 3 0), (5, .ref 4 0), (14, .ref 5 0), (15, .ref 6 0), (16, .int .i64 e147)]) (hp_riseW_12 c q pos ln r147s0_1 x135 o4 o6) (by kernel_rfl) ?_
    intro N
    obtain ⟨⟨b147_g0, b147_g1, b147_g2⟩, h⟩ := guardSome h
    rcases bifSome h with ⟨b147_c0, h⟩ | ⟨b147_c0, h⟩
    · obtain ⟨b147_g3, h⟩ := guardSome h
      obtain ⟨b147_y1, hb147_y1, h⟩ := bindSome h
      cases h
      exact TrK.r hX sch_riseW 13 [0, 1, 2, 3, 4, 5, 6, 7, 8, 9] [([], (tgt_riseW_13 c q pos ln b147_y1 x135 o4 o6))] (.g b147_g0 <| .g b147_g1 <| .g b147_g2 <| .o 162 (DLe.bool b147_c0) <| .g s_riseW_30 <| .g b147_g3 <| .c (ES.emC (loseW_ok (c.cells.getD ((x135).toNat) 0) (IntKind.i64.wrap (1 * 2 ^ (e147).toNat)) c q pos ln r147s0_1 hb147_y1) [0, 1] (hp_riseW_12 c q pos ln r147s0_1 x135 o4 o6) (by kernel_rfl) (by kernel_rfl)) <| .g (Eq.refl (tgt_riseW_13 c q pos ln b147_y1 x135 o4 o6)) <| .e) rfl (by kernel_rfl)
    · obtain ⟨⟨b147_g3, b147_g4, b147_g5⟩, h⟩ := guardSome h
      rcases bifSome h with ⟨b147_c1, h⟩ | ⟨b147_c1, h⟩
      · obtain ⟨b147_g6, h⟩ := guardSome h
        obtain ⟨b147_y1, hb147_y1, h⟩ := bindSome h
        cases h
        exact TrK.r hX sch_riseW 13 [0, 1, 2, 3, 4, 5, 6, 7, 8, 9] [([], (tgt_riseW_13 c q pos ln b147_y1 x135 o4 o6))] (.g b147_g0 <| .g b147_g1 <| .g b147_g2 <| .o 162 (DLe.bool b147_c0) <| .o 167 (wr64 b147_g3) <| .g b147_g4 <| .g b147_g5 <| .o 170 (DLe.bool b147_c1) <| .g s_riseW_30 <| .g b147_g6 <| .c (ES.emC (loseW_ok (c.cells.getD ((x135).toNat) 0) (IntKind.i64.wrap (1 * 2 ^ (e147).toNat)) c q pos ln r147s0_1 hb147_y1) [0, 1] (hp_riseW_12 c q pos ln r147s0_1 x135 o4 o6) (by kernel_rfl) (by kernel_rfl)) <| .g (Eq.refl (tgt_riseW_13 c q pos ln b147_y1 x135 o4 o6)) <| .e) rfl (by kernel_rfl)
      · cases h
        exact TrK.r hX sch_riseW 13 [0, 1, 2, 3, 4, 5, 6, 7, 8, 9] [] (.g b147_g0 <| .g b147_g1 <| .g b147_g2 <| .o 162 (DLe.bool b147_c0) <| .o 167 (wr64 b147_g3) <| .g b147_g4 <| .g b147_g5 <| .o 170 (DLe.bool b147_c1) <| .e) rfl (by kernel_rfl)


inductive riseW_b90T where
  | s0 (r90s0_7 : List Int)
def riseW_b90_H (c : ConsD) (q : ProbD) (pos : List Int) (ln : Nat) (lost o4 : List Int) : riseW_b90T → DH
  | .s0 r90s0_7 => [some (.cells (consC c ++ probC q ++ [.ints pos, .msl 1 1 0 ln])), some (.ints lost), some (.cells [.ref 0 0]), some (.cells [.msl 6 1 0 (((((c.cells.length : Nat) : Int) + 1)).toNat)]), some (.cells [.msl 7 1 0 (((((c.cells.length : Nat) : Int) + 1)).toNat)]), none, some (.ints o4), some (.ints r90s0_7)]
def riseW_b90_e0 (n : Nat) (c : ConsD) (q : ProbD) (pos : List Int) (ln : Nat) (lost o4 : List Int) (e90 : Int × Int) (r90s0_7 : List Int) : Option riseW_b90T :=
  if ((0 : Int) ≤ e90.1 ∧ e90.1 < ((((((c.cells.length : Nat) : Int) + 1)).toNat : Nat) : Int)) ∧ 0 + ((e90.1).toNat) < r90s0_7.length ∧ ((0 : Int) ≤ e90.2 ∧ e90.2 < ((pos.length : Nat) : Int)) ∧ ((0 : Int) ≤ (pos.getD ((e90.2).toNat) 0) ∧ (pos.getD ((e90.2).toNat) 0) < 9223372036854775808) then
   (foldO (riseW_b90_b103 n c q pos ln lost e90 o4) (symsI (pos.getD ((e90.2).toNat) 0)) (.s0 (r90s0_7.set (0 + ((e90.1).toNat)) (-1)))).bind fun b90_y1 =>
    match b90_y1 with
    | .s0 b90_y1_0_0 =>
     some (.s0 b90_y1_0_0)
  else none
def riseW_b90_l0 (n : Nat) (c : ConsD) (q : ProbD) (pos : List Int) (ln : Nat) (lost o4 : List Int) (e90 : Int × Int) : riseW_b90T → Option riseW_b90T
  | .s0 r90s0_7 => riseW_b90_e0 n c q pos ln lost o4 e90 r90s0_7
def riseW_b90 (n : Nat) (c : ConsD) (q : ProbD) (pos : List Int) (ln : Nat) (lost o4 : List Int) (e90 : Int × Int) (s : riseW_b90T) : Option riseW_b90T := riseW_b90_l0 n c q pos ln lost o4 e90 s
set_option maxRecDepth 100000 in
set_option maxHeartbeats 4000000 in
theorem riseW_b90_ok (l B : Nat) (N : Yard Tryd.prog GG 6) (n : Nat) (c : ConsD) (q : ProbD) (pos : List Int) (ln : Nat) (lost o4 : List Int) (e90 : Int × Int) (s : riseW_b90T) (r : riseW_b90T) (h : riseW_b90 n c q pos ln lost o4 e90 s = some r) : TrA Tryd.prog GG (Fence.wide.inRound l) (some B) 6 N (RndQ 6 [] 0 (riseW_b90_H c q pos ln lost o4 r)) (rgA Tryd.f43 90) (rgB Tryd.f43 90) ⟨frm 178 [(1, .ref 2 0), (4, .ref 3 0), (5, .ref 4 0), (90, .it 5), (91, .int .i64 e90.1), (92, .int .i64 e90.2)], riseW_b90_H c q pos ln lost o4 s⟩ := by
  have hX : HX (Fence.wide.inRound l) Tryd.prog := ⟨FOk.round l, by kernel_rfl⟩
  unfold riseW_b90 at h
  cases s with
  | s0 r90s0_7 =>
    have h : riseW_b90_e0 n c q pos ln lost o4 e90 r90s0_7 = some r := h
    unfold riseW_b90_e0 at h
    refine TrA.g hX sch_riseW 8 [1, 2, 5, 10, 11, 104] [0, 1, 2, 3, 4, 5, 6, 7, 8] (.g trivial <| .e) (frm 178 [(1, .ref 2 0), (5, .ref 4 0), (10, .ref 8 0), (11, .int .i64 e90.2)]) (hp_riseW_9 c q pos ln lost o4 r90s0_7 e90) (by kernel_rfl) ?_
    intro N
    obtain ⟨⟨b90_g0, b90_g1, b90_g2, b90_g3⟩, h⟩ := guardSome h
    obtain ⟨b90_y1, hb90_y1, h⟩ := bindSome h
    refine TrK.gS hX sch_riseW 11 [1, 2, 5, 10, 103, 104] [0, 1, 2, 3, 4, 5, 8, 9, 6, 7] [] (.g b90_g0 <| .g b90_g1 <| .g b90_g2 <| .c (symbols_it b90_g3 (hp_riseW_10 c q pos ln lost o4 r90s0_7 e90)) <| .e) [] .e (atT (rgB Tryd.f43 90) 103 []) (frm 178 [(1, .ref 2 0), (5, .ref 4 0), (10, .ref 6 0), (103, .it 7)]) (hp_riseW_11 c q pos ln lost e90 o4 r90s0_7) (by kernel_rfl) (by kernel_rfl) ?_
    refine TrK.rg0 (.inr ⟨l, rfl⟩) 7 103 #[104] encI 8 hb90_y1 (fun l B N e s r hs => riseW_b90_b103_ok l B N n c q pos ln lost e90 o4 e s r hs) (by kernel_rfl) (by kernel_rfl) (by kernel_rfl) (fun _ => rfl) (by kernel_rfl) (by kernel_rfl) (by kernel_rfl) (by kernel_rfl) ?_
    cases b90_y1 with
    | s0 b90_y1_0_0 =>
      dsimp only at h
      cases h
      exact TrK.r hX sch_riseW 7 [0, 1, 2, 3, 4, 5, 8, 9] [] .e rfl (by kernel_rfl)


inductive riseW_b57T where
  | s0 (r57s0_7 : List Int)
def riseW_b57_H (c : ConsD) (x41 : Int) (q : ProbD) (pos : List Int) (ln : Nat) (lost : List Int) : riseW_b57T → DH
  | .s0 r57s0_7 => [some (.cells (consC c ++ probC q ++ [.ints pos, .msl 1 1 0 ln])), some (.ints lost), some (.cells [.ref 0 0]), some (.cells [.msl 7 1 0 (((((c.cells.length : Nat) : Int) + 1)).toNat)]), some (.cells [.msl 8 1 0 (((((c.cells.length : Nat) : Int) + 1)).toNat)]), some (.cells [.int .i64 x41]), none, some (.ints r57s0_7), some (.ints ((List.replicate (((((c.cells.length : Nat) : Int) + 1)).toNat) (0 : Int)).set (0 + c.cells.length) 100))]
def riseW_b57_e0 (n : Nat) (c : ConsD) (x41 : Int) (q : ProbD) (pos : List Int) (ln : Nat) (lost : List Int) (e57 : Int) (r57s0_7 : List Int) : Option riseW_b57T :=
  if ((0 : Int) ≤ e57 ∧ e57 < ((q.values.length : Nat) : Int)) ∧ ((0 : Int) ≤ x41 ∧ x41 < ((((((c.cells.length : Nat) : Int) + 1)).toNat : Nat) : Int)) ∧ 0 + ((x41).toNat) < r57s0_7.length then
   bif (decide ((q.values.getD ((e57).toNat) 0) > (r57s0_7.getD (0 + ((x41).toNat)) 0))) then
    if R64 (x41 + 1) ∧ ((0 : Int) ≤ (x41 + 1) ∧ (x41 + 1) < ((((((c.cells.length : Nat) : Int) + 1)).toNat : Nat) : Int)) ∧ 0 + (((x41 + 1)).toNat) < r57s0_7.length then
     some (.s0 (r57s0_7.set (0 + (((x41 + 1)).toNat)) (if (q.values.getD ((e57).toNat) 0) < (r57s0_7.getD (0 + (((x41 + 1)).toNat)) 0) then (q.values.getD ((e57).toNat) 0) else (r57s0_7.getD (0 + (((x41 + 1)).toNat)) 0))))
    else none
   else
    some (.s0 r57s0_7)
  else none
def riseW_b57_l0 (n : Nat) (c : ConsD) (x41 : Int) (q : ProbD) (pos : List Int) (ln : Nat) (lost : List Int) (e57 : Int) : riseW_b57T → Option riseW_b57T
  | .s0 r57s0_7 => riseW_b57_e0 n c x41 q pos ln lost e57 r57s0_7
def riseW_b57 (n : Nat) (c : ConsD) (x41 : Int) (q : ProbD) (pos : List Int) (ln : Nat) (lost : List Int) (e57 : Int) (s : riseW_b57T) : Option riseW_b57T := riseW_b57_l0 n c x41 q pos ln lost e57 s
set_option maxRecDepth 100000 in
set_option maxHeartbeats 4000000 in
theorem riseW_b57_ok (l B : Nat) (N : Yard Tryd.prog GG 7) (n : Nat) (c : ConsD) (x41 : Int) (q : ProbD) (pos : List Int) (ln : Nat) (lost : List Int) (e57 : Int) (s : riseW_b57T) (r : riseW_b57T) (h : riseW_b57 n c x41 q pos ln lost e57 s = some r) : TrA Tryd.prog GG (Fence.wide.inRound l) (some B) 7 N (RndQ 7 [] 0 (riseW_b57_H c x41 q pos ln lost r)) (rgA Tryd.f43 57) (rgB Tryd.f43 57) ⟨frm 178 [(1, .ref 2 0), (4, .ref 3 0), (5, .ref 4 0), (6, .ref 5 0), (39, .ints c.cells), (40, .int .i64 ((c.cells.length : Nat) : Int)), (41, .int .i64 x41), (57, .it 6), (58, .int .i64 e57)], riseW_b57_H c x41 q pos ln lost s⟩ := by
  have hX : HX (Fence.wide.inRound l) Tryd.prog := ⟨FOk.round l, by kernel_rfl⟩
  unfold riseW_b57 at h
  cases s with
  | s0 r57s0_7 =>
    have h : riseW_b57_e0 n c x41 q pos ln lost e57 r57s0_7 = some r := h
    unfold riseW_b57_e0 at h
    refine TrA.g hX sch_riseW 6 [1, 2, 4, 6, 8] [0, 1, 2, 3, 4, 5, 6, 7, 8] .e (frm 178 [(1, .ref 2 0), (4, .ref 3 0), (6, .ref 5 0), (8, .int .i64 e57)]) (hp_riseW_8 c q pos ln lost x41 r57s0_7) (by kernel_rfl) ?_
    intro N
    obtain ⟨⟨b57_g0, b57_g1, b57_g2⟩, h⟩ := guardSome h
    rcases bifSome h with ⟨b57_c0, h⟩ | ⟨b57_c0, h⟩
    · obtain ⟨⟨b57_g3, b57_g4, b57_g5⟩, h⟩ := guardSome h
      cases h
      exact TrK.r hX sch_riseW 13 [0, 1, 2, 3, 4, 5, 6, 7, 8] [] (.g b57_g0 <| .g b57_g1 <| .g b57_g2 <| .o 72 (DLe.bool b57_c0) <| .g s_riseW_12 <| .o 75 (wr64 b57_g3) <| .o 78 (wr64 b57_g3) <| .g b57_g4 <| .g b57_g5 <| .g b57_g4 <| .g b57_g5 <| .e) rfl (by kernel_rfl)
    · cases h
      exact TrK.r hX sch_riseW 13 [0, 1, 2, 3, 4, 5, 6, 7, 8] [] (.g b57_g0 <| .g b57_g1 <| .g b57_g2 <| .o 72 (DLe.bool b57_c0) <| .e) rfl (by kernel_rfl)


inductive riseWPt where
  | l1 (x41 : Int) (o4 : List Int)
  | l2 (x135 : Int) (o1 o4 o6 : List Int)
def riseW_l1 (n : Nat) (self : riseWPt → Option (Bool × (List Int))) (c : ConsD) (q : ProbD) (pos : List Int) (ln : Nat) (lost : List Int) (x41 : Int) (o4 : List Int) : Option (Bool × (List Int)) :=
  bif (decide (x41 < ((c.cells.length : Nat) : Int))) then
   if ((0 : Int) ≤ x41 ∧ x41 < ((c.cells.length : Nat) : Int)) ∧ R64 (x41 + 1) ∧ ((0 : Int) ≤ (x41 + 1) ∧ (x41 + 1) < ((((((c.cells.length : Nat) : Int) + 1)).toNat : Nat) : Int)) ∧ 0 + (((x41 + 1)).toNat) < o4.length ∧ ((0 : Int) ≤ (c.cells.getD ((x41).toNat) 0) ∧ (c.cells.getD ((x41).toNat) 0) < ((pos.length : Nat) : Int)) ∧ ((0 : Int) ≤ (pos.getD ((c.cells.getD ((x41).toNat) 0).toNat) 0) ∧ (pos.getD ((c.cells.getD ((x41).toNat) 0).toNat) 0) < 9223372036854775808) then
    (foldO (riseW_b57 n c x41 q pos ln lost) (symsI (pos.getD ((c.cells.getD ((x41).toNat) 0).toNat) 0)) (.s0 (o4.set (0 + (((x41 + 1)).toNat)) 100))).bind fun y1 =>
     match y1 with
     | .s0 y1_0_0 =>
      if R64 (x41 + 1) then
       self (.l1 (x41 + 1) y1_0_0)
      else none
   else none
  else
   (back n c.cells).bind fun y1 =>
    (foldO (riseW_b90 n c q pos ln lost o4) y1 (.s0 ((List.replicate (((((c.cells.length : Nat) : Int) + 1)).toNat) (0 : Int)).set (0 + c.cells.length) 100))).bind fun y2 =>
     match y2 with
     | .s0 y2_0_0 =>
      self (.l2 0 lost o4 y2_0_0)
def riseW_l2 (n : Nat) (self : riseWPt → Option (Bool × (List Int))) (c : ConsD) (q : ProbD) (pos : List Int) (ln : Nat) (lost : List Int) (x135 : Int) (o1 o4 o6 : List Int) : Option (Bool × (List Int)) :=
  bif (decide (x135 < ((c.cells.length : Nat) : Int))) then
   if ((0 : Int) ≤ x135 ∧ x135 < ((c.cells.length : Nat) : Int)) ∧ ((0 : Int) ≤ (c.cells.getD ((x135).toNat) 0) ∧ (c.cells.getD ((x135).toNat) 0) < ((pos.length : Nat) : Int)) ∧ ((0 : Int) ≤ (pos.getD ((c.cells.getD ((x135).toNat) 0).toNat) 0) ∧ (pos.getD ((c.cells.getD ((x135).toNat) 0).toNat) 0) < 9223372036854775808) then
    (foldO (riseW_b147 n c x135 q pos ln o4 o6) (symsI (pos.getD ((c.cells.getD ((x135).toNat) 0).toNat) 0)) (.s0 o1)).bind fun y1 =>
     match y1 with
     | .s0 y1_0_0 =>
      if R64 (x135 + 1) then
       self (.l2 (x135 + 1) y1_0_0 o4 o6)
      else none
   else none
  else
   some (true, o1)
def riseW_l0 (n : Nat) (self : riseWPt → Option (Bool × (List Int))) (c : ConsD) (q : ProbD) (pos : List Int) (ln : Nat) (lost : List Int) : Option (Bool × (List Int)) :=
  if R64 (((c.cells.length : Nat) : Int) + 1) ∧ (((((c.cells.length : Nat) : Int) + 1) : Int) = (((c.cells.length : Nat) : Int) + 1) ∧ (0 : Int) ≤ (((c.cells.length : Nat) : Int) + 1) ∧ ((((c.cells.length : Nat) : Int) + 1) : Int) ≤ 1000000000000) ∧ ((0 : Int) ≤ 0 ∧ 0 < ((((((c.cells.length : Nat) : Int) + 1)).toNat : Nat) : Int)) ∧ 0 + 0 < (List.replicate (((((c.cells.length : Nat) : Int) + 1)).toNat) (0 : Int)).length ∧ ((0 : Int) ≤ ((c.cells.length : Nat) : Int) ∧ ((c.cells.length : Nat) : Int) < ((((((c.cells.length : Nat) : Int) + 1)).toNat : Nat) : Int)) ∧ 0 + c.cells.length < (List.replicate (((((c.cells.length : Nat) : Int) + 1)).toNat) (0 : Int)).length then
   self (.l1 0 ((List.replicate (((((c.cells.length : Nat) : Int) + 1)).toNat) (0 : Int)).set (0 + 0) (-1)))
  else none
def riseW_m (c : ConsD) (q : ProbD) (pos : List Int) (ln : Nat) (lost : List Int) : Nat → riseWPt → Option (Bool × (List Int))
  | 0, _ => none
  | n + 1, .l1 x41 o4 => riseW_l1 n (riseW_m c q pos ln lost n) c q pos ln lost x41 o4
  | n + 1, .l2 x135 o1 o4 o6 => riseW_l2 n (riseW_m c q pos ln lost n) c q pos ln lost x135 o1 o4 o6
def riseW (n : Nat) (c : ConsD) (q : ProbD) (pos : List Int) (ln : Nat) (lost : List Int) : Option (Bool × (List Int)) := riseW_l0 n (riseW_m c q pos ln lost n) c q pos ln lost
/-- What the points stand for. -/
def riseW_at (n : Nat) (B : Nat) (N : Yard Tryd.prog GG 2) (c : ConsD) (q : ProbD) (pos : List Int) (ln : Nat) (lost : List Int) (r : Bool × (List Int)) : riseWPt → Prop
  | .l1 x41 o4 => ∀ m0 : Nat, n ≤ m0 → TrK Tryd.prog GG Fence.wide (some B) 2 N (Fin Tryd.prog Tryd.f43 2 (.bool r.1) [some (.cells (consC c ++ probC q ++ [.ints pos, .msl 1 1 0 ln])), some (.ints r.2)]) (toN m0 (atNC (bodyC Tryd.f43) 0 [])) ⟨frm 178 [(1, .ref 2 0), (4, .ref 3 0), (5, .ref 5 0), (39, .ints c.cells), (40, .int .i64 ((c.cells.length : Nat) : Int)), (41, .int .i64 x41)], [some (.cells (consC c ++ probC q ++ [.ints pos, .msl 1 1 0 ln])), some (.ints lost), some (.cells [.ref 0 0]), some (.cells [.msl 4 1 0 (((((c.cells.length : Nat) : Int) + 1)).toNat)]), some (.ints o4), some (.cells [.msl 6 1 0 (((((c.cells.length : Nat) : Int) + 1)).toNat)]), some (.ints ((List.replicate (((((c.cells.length : Nat) : Int) + 1)).toNat) (0 : Int)).set (0 + c.cells.length) 100))]⟩
  | .l2 x135 o1 o4 o6 => ∀ m0 : Nat, n ≤ m0 → TrK Tryd.prog GG Fence.wide (some B) 2 N (Fin Tryd.prog Tryd.f43 2 (.bool r.1) [some (.cells (consC c ++ probC q ++ [.ints pos, .msl 1 1 0 ln])), some (.ints r.2)]) (toN m0 (atNC (bodyC Tryd.f43) 8 [])) ⟨frm 178 [(1, .ref 2 0), (4, .ref 3 0), (5, .ref 5 0), (133, .ints c.cells), (134, .int .i64 ((c.cells.length : Nat) : Int)), (135, .int .i64 x135)], [some (.cells (consC c ++ probC q ++ [.ints pos, .msl 1 1 0 ln])), some (.ints o1), some (.cells [.ref 0 0]), some (.cells [.msl 4 1 0 (((((c.cells.length : Nat) : Int) + 1)).toNat)]), some (.ints o4), some (.cells [.msl 6 1 0 (((((c.cells.length : Nat) : Int) + 1)).toNat)]), some (.ints o6)]⟩
set_option maxRecDepth 100000 in
set_option maxHeartbeats 4000000 in
theorem riseW_p1 (n B : Nat) (N : Yard Tryd.prog GG 2) (self : riseWPt → Option (Bool × (List Int))) (c : ConsD) (q : ProbD) (pos : List Int) (ln : Nat) (lost : List Int) (hself : ∀ pt r, self pt = some r → riseW_at n B N c q pos ln lost r pt) (x41 : Int) (o4 : List Int) (r : Bool × (List Int)) (h : riseW_l1 n self c q pos ln lost x41 o4 = some r) : riseW_at (n + 1) B N c q pos ln lost r (.l1 x41 o4) := by
  have hX : HX Fence.wide Tryd.prog := ⟨FOk.wide, by kernel_rfl⟩
  intro m0 hm0
  refine TrK.round hm0 (by kernel_rfl) fun m0 hm0 => ?_
  unfold riseW_l1 at h
  rcases bifSome h with ⟨c0, h⟩ | ⟨c0, h⟩
  · obtain ⟨⟨g0, g1, g2, g3, g4, g5⟩, h⟩ := guardSome h
    obtain ⟨y1, hy1, h⟩ := bindSome h
    refine TrK.gS hX sch_riseW 19 [1, 4, 5, 6, 39, 40, 41, 57, 58, 91, 92, 104, 148] [0, 1, 2, 3, 5, 7, 8, 4, 6] [] (.o 42 (DLe.bool c0) <| .g g0 <| .g trivial <| .o 48 (wr64 g1) <| .g g2 <| .g g3 <| .g g4 <| .c (symbols_it g5 (hp_riseW_2 c q pos ln lost o4 x41)) <| .e) [] .e (atT (bodyC Tryd.f43) 57 [m0]) (frm 178 [(1, .ref 2 0), (4, .ref 3 0), (5, .ref 4 0), (6, .ref 5 0), (39, .ints c.cells), (40, .int .i64 ((c.cells.length : Nat) : Int)), (41, .int .i64 x41), (57, .it 6)]) (hp_riseW_3 c q pos ln lost x41 o4) (by kernel_rfl) (by kernel_rfl) ?_
    refine TrK.rg0 (.inl rfl) 6 57 #[58] encI 7 hy1 (fun l B N e s r hs => riseW_b57_ok l B N n c x41 q pos ln lost e s r hs) (by kernel_rfl) (by kernel_rfl) (by kernel_rfl) (fun _ => rfl) (by kernel_rfl) (by kernel_rfl) (by kernel_rfl) (by kernel_rfl) ?_
    cases y1 with
    | s0 y1_0_0 =>
      dsimp only at h
      obtain ⟨g6, h⟩ := guardSome h
      exact TrK.g hX sch_riseW 8 [1, 4, 5, 39, 40, 41, 58, 91, 92, 104, 148] [0, 1, 2, 3, 7, 4, 8] [] (.o 84 (wr64 g6) <| .e) (hself (.l1 (x41 + 1) y1_0_0) r h m0 hm0) (by kernel_rfl) (by kernel_rfl)
  · obtain ⟨y1, hy1, h⟩ := bindSome h
    obtain ⟨y2, hy2, h⟩ := bindSome h
    refine TrK.gS hX sch_riseW 14 [1, 4, 5, 90, 91, 92, 104, 148] [0, 1, 2, 3, 5, 7, 4, 6] [] (.o 42 (DLe.bool c0) <| .c (backM_iter hy1 (hp_riseW_4 c q pos ln lost o4)) <| .e) [] .e (atT (bodyC Tryd.f43) 90 []) (frm 178 [(1, .ref 2 0), (4, .ref 3 0), (5, .ref 4 0), (90, .it 5)]) (hp_riseW_5 c q pos ln lost y1 o4) (by kernel_rfl) (by kernel_rfl) ?_
    refine TrK.rg0 (.inl rfl) 5 90 #[91, 92] encII 6 hy2 (fun l B N e s r hs => riseW_b90_ok l B N n c q pos ln lost o4 e s r hs) (by kernel_rfl) (by kernel_rfl) (by kernel_rfl) (fun _ => rfl) (by kernel_rfl) (by kernel_rfl) (by kernel_rfl) (by kernel_rfl) ?_
    cases y2 with
    | s0 y2_0_0 =>
      dsimp only at h
      exact TrK.g hX sch_riseW 10 [1, 4, 5, 133, 134, 135, 148] [0, 1, 2, 3, 6, 4, 7] [] .e (TrK.enter n (by kernel_rfl) (hself (.l2 0 lost o4 y2_0_0) r h n (Nat.le_refl _))) (by kernel_rfl) (by kernel_rfl)
set_option maxRecDepth 100000 in
set_option maxHeartbeats 4000000 in
theorem riseW_p2 (n B : Nat) (N : Yard Tryd.prog GG 2) (self : riseWPt → Option (Bool × (List Int))) (c : ConsD) (q : ProbD) (pos : List Int) (ln : Nat) (lost : List Int) (hself : ∀ pt r, self pt = some r → riseW_at n B N c q pos ln lost r pt) (x135 : Int) (o1 o4 o6 : List Int) (r : Bool × (List Int)) (h : riseW_l2 n self c q pos ln lost x135 o1 o4 o6 = some r) : riseW_at (n + 1) B N c q pos ln lost r (.l2 x135 o1 o4 o6) := by
  have hX : HX Fence.wide Tryd.prog := ⟨FOk.wide, by kernel_rfl⟩
  intro m0 hm0
  refine TrK.round hm0 (by kernel_rfl) fun m0 hm0 => ?_
  unfold riseW_l2 at h
  rcases bifSome h with ⟨c0, h⟩ | ⟨c0, h⟩
  · obtain ⟨⟨g0, g1, g2⟩, h⟩ := guardSome h
    obtain ⟨y1, hy1, h⟩ := bindSome h
    refine TrK.gS hX sch_riseW 17 [1, 4, 5, 14, 15, 133, 134, 135, 147, 148] [0, 1, 2, 3, 5, 7, 8, 9, 4, 6] [] (.o 136 (DLe.bool c0) <| .g g0 <| .g trivial <| .g trivial <| .g s_riseW_26 <| .g g1 <| .c (symbols_it g2 (hp_riseW_6 c q pos ln o1 o4 o6 x135)) <| .e) [] .e (atT (bodyC Tryd.f43) 147 [m0]) (frm 178 [(1, .ref 2 0), (4, .ref 3 0), (5, .ref 4 0), (14, .ref 5 0), (15, .ref 6 0), (133, .ints c.cells), (134, .int .i64 ((c.cells.length : Nat) : Int)), (135, .int .i64 x135), (147, .it 7)]) (hp_riseW_7 c q pos ln o1 x135 o4 o6) (by kernel_rfl) (by kernel_rfl) ?_
    refine TrK.rg0 (.inl rfl) 7 147 #[148] encI 8 hy1 (fun l B N e s r hs => riseW_b147_ok l B N n c x135 q pos ln o4 o6 e s r hs) (by kernel_rfl) (by kernel_rfl) (by kernel_rfl) (fun _ => rfl) (by kernel_rfl) (by kernel_rfl) (by kernel_rfl) (by kernel_rfl) ?_
    cases y1 with
    | s0 y1_0_0 =>
      dsimp only at h
      obtain ⟨g3, h⟩ := guardSome h
      exact TrK.g hX sch_riseW 8 [1, 4, 5, 133, 134, 135, 148] [0, 1, 2, 3, 8, 4, 9] [] (.o 177 (wr64 g3) <| .e) (hself (.l2 (x135 + 1) y1_0_0 o4 o6) r h m0 hm0) (by kernel_rfl) (by kernel_rfl)
  · cases h
    exact TrK.e hX sch_riseW 12 [2] [0, 1] [] (.o 136 (DLe.bool c0) <| .e) [] .e (by kernel_rfl)
theorem riseW_all (B : Nat) (N : Yard Tryd.prog GG 2) (c : ConsD) (q : ProbD) (pos : List Int) (ln : Nat) (lost : List Int) : ∀ (n : Nat) (pt : riseWPt) (r : Bool × (List Int)), riseW_m c q pos ln lost n pt = some r → riseW_at n B N c q pos ln lost r pt
  | 0, _, _, h => by cases h
  | n + 1, .l1 x41 o4, r, h => riseW_p1 n B N (riseW_m c q pos ln lost n) c q pos ln lost (riseW_all B N c q pos ln lost n) x41 o4 r h
  | n + 1, .l2 x135 o1 o4 o6, r, h => riseW_p2 n B N (riseW_m c q pos ln lost n) c q pos ln lost (riseW_all B N c q pos ln lost n) x135 o1 o4 o6 r h
set_option maxRecDepth 100000 in
set_option maxHeartbeats 4000000 in
theorem riseW_ok {n : Nat} (c : ConsD) (q : ProbD) (pos : List Int) (ln : Nat) (lost : List Int) {r : Bool × (List Int)} (h : riseW n c q pos ln lost = some r) : ES Tryd.prog GG 43 [.ref 0 0] [some (.cells (consC c ++ probC q ++ [.ints pos, .msl 1 1 0 ln])), some (.ints lost)] (.bool r.1) [some (.cells (consC c ++ probC q ++ [.ints pos, .msl 1 1 0 ln])), some (.ints r.2)] false := by
  have hX : HX Fence.wide Tryd.prog := ⟨FOk.wide, by kernel_rfl⟩
  refine ES.of_trk Tryd.func43 (by kernel_rfl) (by kernel_rfl) (noIterB (by kernel_rfl)) (fun e => by cases e) fun B N => ?_
  have hself := riseW_all B N c q pos ln lost n
  unfold riseW at h
  generalize riseW_m c q pos ln lost n = self at h hself
  unfold riseW_l0 at h
  obtain ⟨⟨g0, g1, g2, g3, g4, g5⟩, h⟩ := guardSome h
  exact TrK.g hX sch_riseW 17 [1, 4, 5, 39, 40, 41, 58, 91, 92, 104, 148] [0, 1, 2, 5, 3, 6, 4] [([], (tgt_riseW_0 c q pos ln lost)), ([(4, 3)], (tgt_riseW_1 c q pos ln lost))] (.g s_riseW_2 <| .o 25 (wr64 g0) <| .o 28 (wr64 g0) <| .g g1 <| .g g1 <| .g trivial <| .g trivial <| .g (Eq.refl (tgt_riseW_0 c q pos ln lost)) <| .g trivial <| .g trivial <| .g (Eq.refl (tgt_riseW_0 c q pos ln lost)) <| .g g1 <| .g trivial <| .g trivial <| .g (Eq.refl (tgt_riseW_0 c q pos ln lost)) <| .g g1 <| .g trivial <| .g trivial <| .g (Eq.refl (tgt_riseW_0 c q pos ln lost)) <| .g trivial <| .g g1 <| .g trivial <| .g (Eq.refl (tgt_riseW_0 c q pos ln lost)) <| .g g1 <| .g trivial <| .g trivial <| .g (Eq.refl (tgt_riseW_0 c q pos ln lost)) <| .g g1 <| .g trivial <| .g trivial <| .g (Eq.refl (tgt_riseW_0 c q pos ln lost)) <| .g trivial <| .g g1 <| .g trivial <| .g (Eq.refl (tgt_riseW_0 c q pos ln lost)) <| .g g1 <| .g g1 <| .g trivial <| .g trivial <| .g (Eq.refl (tgt_riseW_0 c q pos ln lost)) <| .g trivial <| .g trivial <| .g (Eq.refl (tgt_riseW_0 c q pos ln lost)) <| .g g1 <| .g trivial <| .g trivial <| .g (Eq.refl (tgt_riseW_0 c q pos ln lost)) <| .g g1 <| .g trivial <| .g trivial <| .g (Eq.refl (tgt_riseW_0 c q pos ln lost)) <| .g g1 <| .g trivial <| .g trivial <| .g (Eq.refl (tgt_riseW_0 c q pos ln lost)) <| .g g1 <| .g trivial <| .g trivial <| .g (Eq.refl (tgt_riseW_0 c q pos ln lost)) <| .g g1 <| .g g1 <| .g trivial <| .g trivial <| .g (Eq.refl (tgt_riseW_0 c q pos ln lost)) <| .g g1 <| .g trivial <| .g trivial <| .g (Eq.refl (tgt_riseW_0 c q pos ln lost)) <| .g trivial <| .g g1 <| .g trivial <| .g (Eq.refl (tgt_riseW_0 c q pos ln lost)) <| .g g1 <| .g g1 <| .g trivial <| .g trivial <| .g (Eq.refl (tgt_riseW_0 c q pos ln lost)) <| .g g1 <| .g trivial <| .g trivial <| .g (Eq.refl (tgt_riseW_0 c q pos ln lost)) <| .g g1 <| .g g1 <| .g trivial <| .g trivial <| .g (Eq.refl (tgt_riseW_0 c q pos ln lost)) <| .g trivial <| .g g1 <| .g trivial <| .g (Eq.refl (tgt_riseW_0 c q pos ln lost)) <| .g g1 <| .g g1 <| .g trivial <| .g trivial <| .g (Eq.refl (tgt_riseW_0 c q pos ln lost)) <| .g g1 <| .g g1 <| .g trivial <| .g trivial <| .g (Eq.refl (tgt_riseW_0 c q pos ln lost)) <| .g g1 <| .g trivial <| .g trivial <| .g (Eq.refl (tgt_riseW_0 c q pos ln lost)) <| .g trivial <| .g g1 <| .g trivial <| .g (Eq.refl (tgt_riseW_0 c q pos ln lost)) <| .g g1 <| .g g1 <| .g trivial <| .g trivial <| .g (Eq.refl (tgt_riseW_0 c q pos ln lost)) <| .g g1 <| .g trivial <| .g trivial <| .g (Eq.refl (tgt_riseW_0 c q pos ln lost)) <| .g g1 <| .g g1 <| .g trivial <| .g trivial <| .g (Eq.refl (tgt_riseW_0 c q pos ln lost)) <| .g trivial <| .g g1 <| .g trivial <| .g (Eq.refl (tgt_riseW_0 c q pos ln lost)) <| .g g1 <| .g g1 <| .g trivial <| .g trivial <| .g (Eq.refl (tgt_riseW_0 c q pos ln lost)) <| .g s_riseW_3 <| .g g2 <| .g g3 <| .g g4 <| .g g5 <| .g (Eq.refl (tgt_riseW_1 c q pos ln lost)) <| .e) (TrK.enter n (by kernel_rfl) (hself (.l1 0 ((List.replicate (((((c.cells.length : Nat) : Int) + 1)).toNat) (0 : Int)).set (0 + 0) (-1))) r h n (Nat.le_refl _))) (by kernel_rfl) (by kernel_rfl)


end Go.Proofs.YtekkngkphejfcaaDoor
