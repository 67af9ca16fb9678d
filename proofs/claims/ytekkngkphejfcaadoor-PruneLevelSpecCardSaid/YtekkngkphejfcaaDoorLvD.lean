/- Part 4 of 5 of what the proofs of these laws stand on. -/
import Derived.Test.YtekkngkphejfcaaDoorLvC
import Derived.Shelf.Sort.Plain
import Derived.Test.YtekkngkphejfcaaDoorRows
import Derived.ProofKit
import Derived.OpenShut
import Derived.Deep.DeepHandedRow
import Derived.Lib.LaidTab
import Derived.Deep.Slices
import Derived.Stop.LaidErr
set_option linter.all false
namespace Go.Proofs.YtekkngkphejfcaaDoor
open Go.RowKit
set_option maxRecDepth 100000
set_option maxHeartbeats 40000000
def t_riseW_2 : ST := .rd 0 (.rd 1 (.rd 3 (.rd 4 (.ef 2 (.ef 5 (.ef 6 (.ef 7 (.ef 8 (.ef 9 (.fin [0, 1, 2, 3] [1, 3, 4, 5, 58, 91, 92, 104, 148]) (.no)) (.no)) (.no)) (.ef 7 (.ef 6 (.ef 8 (.ef 9 (.fin [0, 1, 3, 2] [1, 3, 4, 5, 58, 91, 92, 104, 148]) (.no)) (.no)) (.no)) (.no))) (.ef 6 (.ef 5 (.ef 7 (.ef 8 (.ef 9 (.fin [0, 2, 1, 3] [1, 3, 4, 5, 58, 91, 92, 104, 148]) (.no)) (.no)) (.no)) (.ef 7 (.ef 5 (.ef 8 (.ef 9 (.fin [0, 3, 1, 2] [1, 3, 4, 5, 58, 91, 92, 104, 148]) (.no)) (.no)) (.ef 8 (.ef 5 (.ef 9 (.fin [0, 3, 1, 2] [1, 3, 4, 5, 58, 91, 92, 104, 148]) (.no)) (.no)) (.no))) (.no))) (.ef 7 (.ef 5 (.ef 6 (.ef 8 (.ef 9 (.fin [0, 2, 3, 1] [1, 3, 4, 5, 58, 91, 92, 104, 148]) (.no)) (.no)) (.no)) (.ef 6 (.ef 5 (.ef 8 (.ef 9 (.fin [0, 3, 2, 1] [1, 3, 4, 5, 58, 91, 92, 104, 148]) (.no)) (.no)) (.ef 8 (.ef 5 (.ef 9 (.fin [0, 3, 2, 1] [1, 3, 4, 5, 58, 91, 92, 104, 148]) (.no)) (.no)) (.no))) (.no))) (.no)))) (.ef 5 (.ef 2 (.ef 6 (.ef 7 (.ef 8 (.ef 9 (.fin [1, 0, 2, 3] [1, 3, 4, 5, 58, 91, 92, 104, 148]) (.no)) (.no)) (.no)) (.ef 7 (.ef 6 (.ef 8 (.ef 9 (.fin [1, 0, 3, 2] [1, 3, 4, 5, 58, 91, 92, 104, 148]) (.no)) (.no)) (.no)) (.no))) (.ef 6 (.ef 2 (.ef 7 (.ef 8 (.ef 9 (.fin [2, 0, 1, 3] [1, 3, 4, 5, 58, 91, 92, 104, 148]) (.no)) (.no)) (.no)) (.ef 7 (.ef 2 (.ef 8 (.ef 9 (.fin [3, 0, 1, 2] [1, 3, 4, 5, 58, 91, 92, 104, 148]) (.no)) (.no)) (.no)) (.no))) (.ef 7 (.ef 2 (.ef 6 (.ef 8 (.ef 9 (.fin [2, 0, 3, 1] [1, 3, 4, 5, 58, 91, 92, 104, 148]) (.no)) (.no)) (.no)) (.ef 6 (.ef 2 (.ef 8 (.ef 9 (.fin [3, 0, 2, 1] [1, 3, 4, 5, 58, 91, 92, 104, 148]) (.no)) (.no)) (.no)) (.no))) (.no)))) (.ef 6 (.ef 2 (.ef 5 (.ef 7 (.ef 8 (.ef 9 (.fin [1, 2, 0, 3] [1, 3, 4, 5, 58, 91, 92, 104, 148]) (.no)) (.no)) (.no)) (.ef 7 (.ef 5 (.ef 8 (.ef 9 (.fin [1, 3, 0, 2] [1, 3, 4, 5, 58, 91, 92, 104, 148]) (.no)) (.no)) (.ef 8 (.ef 5 (.ef 9 (.fin [1, 3, 0, 2] [1, 3, 4, 5, 58, 91, 92, 104, 148]) (.no)) (.no)) (.no))) (.no))) (.ef 5 (.ef 2 (.ef 7 (.ef 8 (.ef 9 (.fin [2, 1, 0, 3] [1, 3, 4, 5, 58, 91, 92, 104, 148]) (.no)) (.no)) (.no)) (.ef 7 (.ef 2 (.ef 8 (.ef 9 (.fin [3, 1, 0, 2] [1, 3, 4, 5, 58, 91, 92, 104, 148]) (.no)) (.no)) (.no)) (.no))) (.ef 7 (.ef 2 (.ef 5 (.ef 8 (.ef 9 (.fin [2, 3, 0, 1] [1, 3, 4, 5, 58, 91, 92, 104, 148]) (.no)) (.no)) (.ef 8 (.ef 5 (.ef 9 (.fin [2, 3, 0, 1] [1, 3, 4, 5, 58, 91, 92, 104, 148]) (.no)) (.no)) (.no))) (.ef 5 (.ef 2 (.ef 8 (.ef 9 (.fin [3, 2, 0, 1] [1, 3, 4, 5, 58, 91, 92, 104, 148]) (.no)) (.no)) (.no)) (.no))) (.no)))) (.ef 7 (.ef 2 (.ef 5 (.ef 6 (.ef 8 (.ef 9 (.fin [1, 2, 3, 0] [1, 3, 4, 5, 58, 91, 92, 104, 148]) (.no)) (.no)) (.no)) (.ef 6 (.ef 5 (.ef 8 (.ef 9 (.fin [1, 3, 2, 0] [1, 3, 4, 5, 58, 91, 92, 104, 148]) (.no)) (.no)) (.ef 8 (.ef 5 (.ef 9 (.fin [1, 3, 2, 0] [1, 3, 4, 5, 58, 91, 92, 104, 148]) (.no)) (.no)) (.no))) (.no))) (.ef 5 (.ef 2 (.ef 6 (.ef 8 (.ef 9 (.fin [2, 1, 3, 0] [1, 3, 4, 5, 58, 91, 92, 104, 148]) (.no)) (.no)) (.no)) (.ef 6 (.ef 2 (.ef 8 (.ef 9 (.fin [3, 1, 2, 0] [1, 3, 4, 5, 58, 91, 92, 104, 148]) (.no)) (.no)) (.no)) (.no))) (.ef 6 (.ef 2 (.ef 5 (.ef 8 (.ef 9 (.fin [2, 3, 1, 0] [1, 3, 4, 5, 58, 91, 92, 104, 148]) (.no)) (.no)) (.ef 8 (.ef 5 (.ef 9 (.fin [2, 3, 1, 0] [1, 3, 4, 5, 58, 91, 92, 104, 148]) (.no)) (.no)) (.no))) (.ef 5 (.ef 2 (.ef 8 (.ef 9 (.fin [3, 2, 1, 0] [1, 3, 4, 5, 58, 91, 92, 104, 148]) (.no)) (.no)) (.no)) (.no))) (.no)))) (.no))))))))
theorem s_riseW_2 : TOk (regF Tryd.f43 2) [2, 5, 6, 7, 8] t_riseW_2 := by unfold TOk; kernel_rfl
def t_riseW_3 : ST := .rd 0 (.rd 1 (.rd 2 (.rd 3 (.ef 4 (.rd 5 (.ef 6 (.fin [] [1, 4, 5, 58, 91, 92, 104, 148]) (.no))) (.no)))))
theorem s_riseW_3 : TOk (regF Tryd.f43 3) [4] t_riseW_3 := by unfold TOk; kernel_rfl
theorem s_riseW_12 : SOk (regF Tryd.f43 12) [] (List.range 11) [11] := by unfold SOk; kernel_rfl
theorem s_riseW_22 : SOk (regF Tryd.f43 22) [] (List.range 9) [9] := by unfold SOk; kernel_rfl
theorem s_riseW_26 : SOk (regF Tryd.f43 26) [([0, 1, 2, 3, 4, 5, 6], 7)] [] [] := by unfold SOk; kernel_rfl
def t_riseW_30 : ST := .rd 0 (.rd 1 (.rd 2 (.rd 3 (.ef 4 (.fin [] [2]) (.no)))))
theorem s_riseW_30 : TOk (regF Tryd.f43 30) [] t_riseW_30 := by unfold TOk; kernel_rfl
def sch_riseW : Sch := fun i => match i with
  | 2 => .tre [2, 5, 6, 7, 8] t_riseW_2
  | 3 => .tre [4] t_riseW_3
  | 12 => .ord [] (List.range 11) [11]
  | 22 => .ord [] (List.range 9) [9]
  | 26 => .ord [([0, 1, 2, 3, 4, 5, 6], 7)] [] []
  | 30 => .tre [] t_riseW_30
  | _ => .no
def tgt_riseW_0 (c : ConsD) (q : ProbD) (pos : List Int) (ln : Nat) (lost : List Int) : St := ⟨(frm 178 [(1, .ref 2 0), (3, .i (c.cells.length : Int)), (4, .ref 5 0), (5, .ref 6 0)]), ([some (.cells (consC c ++ probC q ++ [.ints pos, .msl 1 1 0 ln])), some (.ints lost), some (.cells [.ref 0 0]), some (.ints (List.replicate ((((c.cells.length : Int) + 1)).toNat) (0 : Int))), some (.ints (List.replicate ((((c.cells.length : Int) + 1)).toNat) (0 : Int))), some (.cells [.msl 3 1 0 ((((c.cells.length : Int) + 1)).toNat)]), some (.cells [.msl 4 1 0 ((((c.cells.length : Int) + 1)).toNat)])] : DH)⟩
def tgt_riseW_1 (c : ConsD) (q : ProbD) (pos : List Int) (ln : Nat) (lost : List Int) : St := ⟨(frm 178 [(1, .ref 2 0), (4, .ref 5 0), (5, .ref 6 0)]), ([some (.cells (consC c ++ probC q ++ [.ints pos, .msl 1 1 0 ln])), some (.ints lost), some (.cells [.ref 0 0]), some (.ints ((List.replicate ((((c.cells.length : Int) + 1)).toNat) (0 : Int)).set (0 + 0) (-1))), some (.ints ((List.replicate ((((c.cells.length : Int) + 1)).toNat) (0 : Int)).set (0 + c.cells.length) 100)), some (.cells [.msl 3 1 0 ((((c.cells.length : Int) + 1)).toNat)]), some (.cells [.msl 4 1 0 ((((c.cells.length : Int) + 1)).toNat)])] : DH)⟩
def hp_riseW_2 (c : ConsD) (q : ProbD) (pos : List Int) (ln : Nat) (lost o4 : List Int) (x41 : Int) : DH := [some (.cells (consC c ++ probC q ++ [.ints pos, .msl 1 1 0 ln])), some (.ints lost), some (.cells [.ref 0 0]), some (.cells [.msl 4 1 0 ((((c.cells.length : Int) + 1)).toNat)]), some (.ints (o4.set (0 + (((x41 + 1)).toNat)) 100)), some (.cells [.msl 6 1 0 ((((c.cells.length : Int) + 1)).toNat)]), some (.ints ((List.replicate ((((c.cells.length : Int) + 1)).toNat) (0 : Int)).set (0 + c.cells.length) 100)), some (.cells [.i x41])]
def hp_riseW_3 (c : ConsD) (q : ProbD) (pos : List Int) (ln : Nat) (lost : List Int) (x41 : Int) (o4 : List Int) : DH := [some (.cells (consC c ++ probC q ++ [.ints pos, .msl 1 1 0 ln])), some (.ints lost), some (.cells [.ref 0 0]), some (.cells [.msl 7 1 0 ((((c.cells.length : Int) + 1)).toNat)]), some (.cells [.msl 8 1 0 ((((c.cells.length : Int) + 1)).toNat)]), some (.cells [.i x41]), some (.iter ((symsI (pos.getD ((c.cells.getD ((x41).toNat) 0).toNat) 0)).map encI)), some (.ints (o4.set (0 + (((x41 + 1)).toNat)) 100)), some (.ints ((List.replicate ((((c.cells.length : Int) + 1)).toNat) (0 : Int)).set (0 + c.cells.length) 100))]
def hp_riseW_4 (c : ConsD) (q : ProbD) (pos : List Int) (ln : Nat) (lost o4 : List Int) : DH := [some (.cells (consC c ++ probC q ++ [.ints pos, .msl 1 1 0 ln])), some (.ints lost), some (.cells [.ref 0 0]), some (.cells [.msl 4 1 0 ((((c.cells.length : Int) + 1)).toNat)]), some (.ints o4), some (.cells [.msl 6 1 0 ((((c.cells.length : Int) + 1)).toNat)]), some (.ints ((List.replicate ((((c.cells.length : Int) + 1)).toNat) (0 : Int)).set (0 + c.cells.length) 100))]
def hp_riseW_5 (c : ConsD) (q : ProbD) (pos : List Int) (ln : Nat) (lost : List Int) (y1 : List (Int × Int)) (o4 : List Int) : DH := [some (.cells (consC c ++ probC q ++ [.ints pos, .msl 1 1 0 ln])), some (.ints lost), some (.cells [.ref 0 0]), some (.cells [.msl 6 1 0 ((((c.cells.length : Int) + 1)).toNat)]), some (.cells [.msl 7 1 0 ((((c.cells.length : Int) + 1)).toNat)]), some (.iter ((y1).map encII)), some (.ints o4), some (.ints ((List.replicate ((((c.cells.length : Int) + 1)).toNat) (0 : Int)).set (0 + c.cells.length) 100))]
def hp_riseW_6 (c : ConsD) (q : ProbD) (pos : List Int) (ln : Nat) (o1 o4 o6 : List Int) (x135 : Int) : DH := [some (.cells (consC c ++ probC q ++ [.ints pos, .msl 1 1 0 ln])), some (.ints o1), some (.cells [.ref 0 0]), some (.cells [.msl 4 1 0 ((((c.cells.length : Int) + 1)).toNat)]), some (.ints o4), some (.cells [.msl 6 1 0 ((((c.cells.length : Int) + 1)).toNat)]), some (.ints o6), some (.cells [.i x135]), some (.cells [.i (c.cells.getD ((x135).toNat) 0)])]
def hp_riseW_7 (c : ConsD) (q : ProbD) (pos : List Int) (ln : Nat) (o1 : List Int) (x135 : Int) (o4 o6 : List Int) : DH := [some (.cells (consC c ++ probC q ++ [.ints pos, .msl 1 1 0 ln])), some (.ints o1), some (.cells [.ref 0 0]), some (.cells [.msl 8 1 0 ((((c.cells.length : Int) + 1)).toNat)]), some (.cells [.msl 9 1 0 ((((c.cells.length : Int) + 1)).toNat)]), some (.cells [.i x135]), some (.cells [.i (c.cells.getD ((x135).toNat) 0)]), some (.iter ((symsI (pos.getD ((c.cells.getD ((x135).toNat) 0).toNat) 0)).map encI)), some (.ints o4), some (.ints o6)]
def hp_riseW_8 (c : ConsD) (q : ProbD) (pos : List Int) (ln : Nat) (lost : List Int) (x41 : Int) (r57s0_7 : List Int) : DH := [some (.cells (consC c ++ probC q ++ [.ints pos, .msl 1 1 0 ln])), some (.ints lost), some (.cells [.ref 0 0]), some (.cells [.msl 7 1 0 ((((c.cells.length : Int) + 1)).toNat)]), some (.cells [.msl 8 1 0 ((((c.cells.length : Int) + 1)).toNat)]), some (.cells [.i x41]), none, some (.ints r57s0_7), some (.ints ((List.replicate ((((c.cells.length : Int) + 1)).toNat) (0 : Int)).set (0 + c.cells.length) 100))]
def hp_riseW_9 (c : ConsD) (q : ProbD) (pos : List Int) (ln : Nat) (lost o4 r90s0_7 : List Int) (e90 : Int × Int) : DH := [some (.cells (consC c ++ probC q ++ [.ints pos, .msl 1 1 0 ln])), some (.ints lost), some (.cells [.ref 0 0]), some (.cells [.msl 6 1 0 ((((c.cells.length : Int) + 1)).toNat)]), some (.cells [.msl 7 1 0 ((((c.cells.length : Int) + 1)).toNat)]), none, some (.ints o4), some (.ints r90s0_7), some (.cells [.i e90.1])]
def hp_riseW_10 (c : ConsD) (q : ProbD) (pos : List Int) (ln : Nat) (lost o4 r90s0_7 : List Int) (e90 : Int × Int) : DH := [some (.cells (consC c ++ probC q ++ [.ints pos, .msl 1 1 0 ln])), some (.ints lost), some (.cells [.ref 0 0]), some (.cells [.msl 6 1 0 ((((c.cells.length : Int) + 1)).toNat)]), some (.cells [.msl 7 1 0 ((((c.cells.length : Int) + 1)).toNat)]), none, some (.ints o4), some (.ints (r90s0_7.set (0 + ((e90.1).toNat)) (-1))), some (.cells [.i e90.1])]
def hp_riseW_11 (c : ConsD) (q : ProbD) (pos : List Int) (ln : Nat) (lost : List Int) (e90 : Int × Int) (o4 r90s0_7 : List Int) : DH := [some (.cells (consC c ++ probC q ++ [.ints pos, .msl 1 1 0 ln])), some (.ints lost), some (.cells [.ref 0 0]), some (.cells [.msl 8 1 0 ((((c.cells.length : Int) + 1)).toNat)]), some (.cells [.msl 9 1 0 ((((c.cells.length : Int) + 1)).toNat)]), none, some (.cells [.i e90.1]), some (.iter ((symsI (pos.getD ((e90.2).toNat) 0)).map encI)), some (.ints o4), some (.ints (r90s0_7.set (0 + ((e90.1).toNat)) (-1)))]
def hp_riseW_12 (c : ConsD) (q : ProbD) (pos : List Int) (ln : Nat) (r147s0_1 : List Int) (x135 : Int) (o4 o6 : List Int) : DH := [some (.cells (consC c ++ probC q ++ [.ints pos, .msl 1 1 0 ln])), some (.ints r147s0_1), some (.cells [.ref 0 0]), some (.cells [.msl 8 1 0 ((((c.cells.length : Int) + 1)).toNat)]), some (.cells [.msl 9 1 0 ((((c.cells.length : Int) + 1)).toNat)]), some (.cells [.i x135]), some (.cells [.i (c.cells.getD ((x135).toNat) 0)]), none, some (.ints o4), some (.ints o6)]
def tgt_riseW_13 (c : ConsD) (q : ProbD) (pos : List Int) (ln : Nat) (b147_y1 : (List Int)) (x135 : Int) (o4 o6 : List Int) : St := ⟨(frm 178 []), ([some (.cells (consC c ++ probC q ++ [.ints pos, .msl 1 1 0 ln])), some (.ints b147_y1), some (.cells [.ref 0 0]), some (.cells [.msl 8 1 0 ((((c.cells.length : Int) + 1)).toNat)]), some (.cells [.msl 9 1 0 ((((c.cells.length : Int) + 1)).toNat)]), some (.cells [.i x135]), some (.cells [.i (c.cells.getD ((x135).toNat) 0)]), none, some (.ints o4), some (.ints o6)] : DH)⟩
def hp_riseW_14 (c : ConsD) (q : ProbD) (pos : List Int) (ln : Nat) (lost : List Int) (e90 : Int × Int) (o4 r103s0_9 : List Int) : DH := [some (.cells (consC c ++ probC q ++ [.ints pos, .msl 1 1 0 ln])), some (.ints lost), some (.cells [.ref 0 0]), some (.cells [.msl 8 1 0 ((((c.cells.length : Int) + 1)).toNat)]), some (.cells [.msl 9 1 0 ((((c.cells.length : Int) + 1)).toNat)]), none, some (.cells [.i e90.1]), none, some (.ints o4), some (.ints r103s0_9)]
inductive riseW_b90_b103T where
  | s0 (r103s0_9 : List Int)
def riseW_b90_b103_H (c : ConsD) (q : ProbD) (pos : List Int) (ln : Nat) (lost : List Int) (e90 : Int × Int) (o4 : List Int) : riseW_b90_b103T → DH
  | .s0 r103s0_9 => [some (.cells (consC c ++ probC q ++ [.ints pos, .msl 1 1 0 ln])), some (.ints lost), some (.cells [.ref 0 0]), some (.cells [.msl 8 1 0 ((((c.cells.length : Int) + 1)).toNat)]), some (.cells [.msl 9 1 0 ((((c.cells.length : Int) + 1)).toNat)]), none, some (.cells [.i e90.1]), none, some (.ints o4), some (.ints r103s0_9)]
def riseW_b90_b103_e0 (n : Nat) (c : ConsD) (q : ProbD) (pos : List Int) (ln : Nat) (lost : List Int) (e90 : Int × Int) (o4 : List Int) (e103 : Int) (r103s0_9 : List Int) : Option riseW_b90_b103T :=
  if (0 ≤ e103 ∧ e103 < (q.values.length : Int)) ∧ R64 (e90.1 + 1) ∧ (0 ≤ (e90.1 + 1) ∧ (e90.1 + 1) < (((((c.cells.length : Int) + 1)).toNat : Nat) : Int)) ∧ 0 + (((e90.1 + 1)).toNat) < r103s0_9.length then
   bif (decide ((q.values.getD ((e103).toNat) 0) < (r103s0_9.getD (0 + (((e90.1 + 1)).toNat)) 0))) then
    if (0 ≤ e90.1 ∧ e90.1 < (((((c.cells.length : Int) + 1)).toNat : Nat) : Int)) ∧ 0 + ((e90.1).toNat) < r103s0_9.length then
     some (.s0 (r103s0_9.set (0 + ((e90.1).toNat)) (if (q.values.getD ((e103).toNat) 0) > (r103s0_9.getD (0 + ((e90.1).toNat)) 0) then (q.values.getD ((e103).toNat) 0) else (r103s0_9.getD (0 + ((e90.1).toNat)) 0))))
    else none
   else
    some (.s0 r103s0_9)
  else none
def riseW_b90_b103_l0 (n : Nat) (c : ConsD) (q : ProbD) (pos : List Int) (ln : Nat) (lost : List Int) (e90 : Int × Int) (o4 : List Int) (e103 : Int) : riseW_b90_b103T → Option riseW_b90_b103T
  | .s0 r103s0_9 => riseW_b90_b103_e0 n c q pos ln lost e90 o4 e103 r103s0_9
def riseW_b90_b103 (n : Nat) (c : ConsD) (q : ProbD) (pos : List Int) (ln : Nat) (lost : List Int) (e90 : Int × Int) (o4 : List Int) (e103 : Int) (s : riseW_b90_b103T) : Option riseW_b90_b103T := riseW_b90_b103_l0 n c q pos ln lost e90 o4 e103 s
theorem riseW_b90_b103_ok (n : Nat) (c : ConsD) (q : ProbD) (pos : List Int) (ln : Nat) (lost : List Int) (e90 : Int × Int) (o4 : List Int) (l B : Nat) (N : Yard Tryd.prog GG 8) (e103 : Int) (s : riseW_b90_b103T) (r : riseW_b90_b103T) (h : riseW_b90_b103 n c q pos ln lost e90 o4 e103 s = some r) : TrA Tryd.prog GG (Fence.wide.inRound l) (some B) 8 N (RndQ 8 [] 0 (riseW_b90_b103_H c q pos ln lost e90 o4 r)) (rgA Tryd.f43 103) (rgB Tryd.f43 103) ⟨frm 178 [(1, .ref 2 0), (5, .ref 4 0), (10, .ref 6 0), (103, .it 7), (104, .i e103)], riseW_b90_b103_H c q pos ln lost e90 o4 s⟩ := by
  unfold riseW_b90_b103 at h
  cases s with
  | s0 r103s0_9 =>
    have h : riseW_b90_b103_e0 n c q pos ln lost e90 o4 e103 r103s0_9 = some r := h
    unfold riseW_b90_b103_e0 at h
    refine ag sch_riseW [0, 1, 2, 3, 4, 5, 6, 7, 8, 9] H0 (frm 178 [(1, .ref 2 0), (5, .ref 4 0), (10, .ref 6 0), (12, .i e103)]) (hp_riseW_14 c q pos ln lost e90 o4 r103s0_9) ?_
    intro N
    obtain ⟨⟨b103_g0, b103_g1, b103_g2, b103_g3⟩, h⟩ := guardSome h
    have p := H0.g b103_g0 |>.w 116 b103_g1 |>.g b103_g2 |>.g b103_g3
    rcases bifSome h with ⟨b103_c0, h⟩ | ⟨b103_c0, h⟩
    · obtain ⟨⟨b103_g4, b103_g5⟩, h⟩ := guardSome h
      cases h
      exact rr sch_riseW [0, 1, 2, 3, 4, 5, 6, 7, 8, 9] rfl (p.b 119 b103_c0 |>.g s_riseW_22 |>.g b103_g4 |>.g b103_g5 |>.g b103_g4 |>.g b103_g5)
    · cases h
      exact rr sch_riseW [0, 1, 2, 3, 4, 5, 6, 7, 8, 9] rfl (p.b 119 b103_c0)
inductive riseW_b147T where
  | s0 (r147s0_1 : List Int)
def riseW_b147_H (c : ConsD) (x135 : Int) (q : ProbD) (pos : List Int) (ln : Nat) (o4 o6 : List Int) : riseW_b147T → DH
  | .s0 r147s0_1 => [some (.cells (consC c ++ probC q ++ [.ints pos, .msl 1 1 0 ln])), some (.ints r147s0_1), some (.cells [.ref 0 0]), some (.cells [.msl 8 1 0 ((((c.cells.length : Int) + 1)).toNat)]), some (.cells [.msl 9 1 0 ((((c.cells.length : Int) + 1)).toNat)]), some (.cells [.i x135]), some (.cells [.i (c.cells.getD ((x135).toNat) 0)]), none, some (.ints o4), some (.ints o6)]
def riseW_b147_e0 (n : Nat) (c : ConsD) (x135 : Int) (q : ProbD) (pos : List Int) (ln : Nat) (o4 o6 : List Int) (e147 : Int) (r147s0_1 : List Int) : Option riseW_b147T :=
  if (0 ≤ e147 ∧ e147 < (q.values.length : Int)) ∧ (0 ≤ x135 ∧ x135 < (((((c.cells.length : Int) + 1)).toNat : Nat) : Int)) ∧ 0 + ((x135).toNat) < o4.length then
   bif (decide ((q.values.getD ((e147).toNat) 0) ≤ (o4.getD (0 + ((x135).toNat)) 0))) then
    if 0 ≤ e147 ∧ e147 ≤ (IntKind.i64.bits : Int) then
     (loseW n (c.cells.getD ((x135).toNat) 0) (IntKind.i64.wrap (1 * 2 ^ (e147).toNat)) c q pos ln r147s0_1).bind fun b147_y1 =>
      some (.s0 b147_y1)
    else none
   else
    if R64 (x135 + 1) ∧ (0 ≤ (x135 + 1) ∧ (x135 + 1) < (((((c.cells.length : Int) + 1)).toNat : Nat) : Int)) ∧ 0 + (((x135 + 1)).toNat) < o6.length then
     bif (decide ((q.values.getD ((e147).toNat) 0) ≥ (o6.getD (0 + (((x135 + 1)).toNat)) 0))) then
      if 0 ≤ e147 ∧ e147 ≤ (IntKind.i64.bits : Int) then
       (loseW n (c.cells.getD ((x135).toNat) 0) (IntKind.i64.wrap (1 * 2 ^ (e147).toNat)) c q pos ln r147s0_1).bind fun b147_y1 =>
        some (.s0 b147_y1)
      else none
     else
      some (.s0 r147s0_1)
    else none
  else none
def riseW_b147_l0 (n : Nat) (c : ConsD) (x135 : Int) (q : ProbD) (pos : List Int) (ln : Nat) (o4 o6 : List Int) (e147 : Int) : riseW_b147T → Option riseW_b147T
  | .s0 r147s0_1 => riseW_b147_e0 n c x135 q pos ln o4 o6 e147 r147s0_1
def riseW_b147 (n : Nat) (c : ConsD) (x135 : Int) (q : ProbD) (pos : List Int) (ln : Nat) (o4 o6 : List Int) (e147 : Int) (s : riseW_b147T) : Option riseW_b147T := riseW_b147_l0 n c x135 q pos ln o4 o6 e147 s
theorem riseW_b147_ok (n : Nat) (c : ConsD) (x135 : Int) (q : ProbD) (pos : List Int) (ln : Nat) (o4 o6 : List Int) (l B : Nat) (N : Yard Tryd.prog GG 8) (e147 : Int) (s : riseW_b147T) (r : riseW_b147T) (h : riseW_b147 n c x135 q pos ln o4 o6 e147 s = some r) : TrA Tryd.prog GG (Fence.wide.inRound l) (some B) 8 N (RndQ 8 [] 0 (riseW_b147_H c x135 q pos ln o4 o6 r)) (rgA Tryd.f43 147) (rgB Tryd.f43 147) ⟨frm 178 [(1, .ref 2 0), (4, .ref 3 0), (5, .ref 4 0), (14, .ref 5 0), (15, .ref 6 0), (133, .ints c.cells), (134, .i (c.cells.length : Int)), (135, .i x135), (147, .it 7), (148, .i e147)], riseW_b147_H c x135 q pos ln o4 o6 s⟩ := by
  unfold riseW_b147 at h
  cases s with
  | s0 r147s0_1 =>
    have h : riseW_b147_e0 n c x135 q pos ln o4 o6 e147 r147s0_1 = some r := h
    unfold riseW_b147_e0 at h
    refine ag sch_riseW [0, 1, 2, 3, 4, 5, 6, 7, 8, 9] H0 (frm 178 [(1, .ref 2 0), (4, .ref 3 0), (5, .ref 4 0), (14, .ref 5 0), (15, .ref 6 0), (16, .i e147)]) (hp_riseW_12 c q pos ln r147s0_1 x135 o4 o6) ?_
    intro N
    obtain ⟨⟨b147_g0, b147_g1, b147_g2⟩, h⟩ := guardSome h
    have p := H0.g b147_g0 |>.g b147_g1 |>.g b147_g2
    rcases bifSome h with ⟨b147_c0, h⟩ | ⟨b147_c0, h⟩
    · obtain ⟨b147_g3, h⟩ := guardSome h
      obtain ⟨b147_y1, hb147_y1, h⟩ := bindSome h
      cases h
      exact rr (tg := [([], (tgt_riseW_13 c q pos ln b147_y1 x135 o4 o6))]) sch_riseW [0, 1, 2, 3, 4, 5, 6, 7, 8, 9] rfl (p.b 162 b147_c0 |>.g s_riseW_30 |>.g b147_g3 |>.c (em (loseW_ok hb147_y1) [0, 1] (hp_riseW_12 c q pos ln r147s0_1 x135 o4 o6)) |>.g (Eq.refl (tgt_riseW_13 c q pos ln b147_y1 x135 o4 o6)))
    · obtain ⟨⟨b147_g3, b147_g4, b147_g5⟩, h⟩ := guardSome h
      have p := p.b 162 b147_c0 |>.w 167 b147_g3 |>.g b147_g4 |>.g b147_g5
      rcases bifSome h with ⟨b147_c1, h⟩ | ⟨b147_c1, h⟩
      · obtain ⟨b147_g6, h⟩ := guardSome h
        obtain ⟨b147_y1, hb147_y1, h⟩ := bindSome h
        cases h
        exact rr (tg := [([], (tgt_riseW_13 c q pos ln b147_y1 x135 o4 o6))]) sch_riseW [0, 1, 2, 3, 4, 5, 6, 7, 8, 9] rfl (p.b 170 b147_c1 |>.g s_riseW_30 |>.g b147_g6 |>.c (em (loseW_ok hb147_y1) [0, 1] (hp_riseW_12 c q pos ln r147s0_1 x135 o4 o6)) |>.g (Eq.refl (tgt_riseW_13 c q pos ln b147_y1 x135 o4 o6)))
      · cases h
        exact rr sch_riseW [0, 1, 2, 3, 4, 5, 6, 7, 8, 9] rfl (p.b 170 b147_c1)
inductive riseW_b90T where
  | s0 (r90s0_7 : List Int)
def riseW_b90_H (c : ConsD) (q : ProbD) (pos : List Int) (ln : Nat) (lost o4 : List Int) : riseW_b90T → DH
  | .s0 r90s0_7 => [some (.cells (consC c ++ probC q ++ [.ints pos, .msl 1 1 0 ln])), some (.ints lost), some (.cells [.ref 0 0]), some (.cells [.msl 6 1 0 ((((c.cells.length : Int) + 1)).toNat)]), some (.cells [.msl 7 1 0 ((((c.cells.length : Int) + 1)).toNat)]), none, some (.ints o4), some (.ints r90s0_7)]
def riseW_b90_e0 (n : Nat) (c : ConsD) (q : ProbD) (pos : List Int) (ln : Nat) (lost o4 : List Int) (e90 : Int × Int) (r90s0_7 : List Int) : Option riseW_b90T :=
  if (0 ≤ e90.1 ∧ e90.1 < (((((c.cells.length : Int) + 1)).toNat : Nat) : Int)) ∧ 0 + ((e90.1).toNat) < r90s0_7.length ∧ (0 ≤ e90.2 ∧ e90.2 < (pos.length : Int)) ∧ (0 ≤ (pos.getD ((e90.2).toNat) 0) ∧ (pos.getD ((e90.2).toNat) 0) < 9223372036854775808) then
   (foldO (riseW_b90_b103 n c q pos ln lost e90 o4) (symsI (pos.getD ((e90.2).toNat) 0)) (.s0 (r90s0_7.set (0 + ((e90.1).toNat)) (-1)))).bind fun b90_y1 =>
    match b90_y1 with
    | .s0 b90_y1_0_0 =>
     some (.s0 b90_y1_0_0)
  else none
def riseW_b90_l0 (n : Nat) (c : ConsD) (q : ProbD) (pos : List Int) (ln : Nat) (lost o4 : List Int) (e90 : Int × Int) : riseW_b90T → Option riseW_b90T
  | .s0 r90s0_7 => riseW_b90_e0 n c q pos ln lost o4 e90 r90s0_7
def riseW_b90 (n : Nat) (c : ConsD) (q : ProbD) (pos : List Int) (ln : Nat) (lost o4 : List Int) (e90 : Int × Int) (s : riseW_b90T) : Option riseW_b90T := riseW_b90_l0 n c q pos ln lost o4 e90 s
theorem riseW_b90_ok (n : Nat) (c : ConsD) (q : ProbD) (pos : List Int) (ln : Nat) (lost o4 : List Int) (l B : Nat) (N : Yard Tryd.prog GG 6) (e90 : Int × Int) (s : riseW_b90T) (r : riseW_b90T) (h : riseW_b90 n c q pos ln lost o4 e90 s = some r) : TrA Tryd.prog GG (Fence.wide.inRound l) (some B) 6 N (RndQ 6 [] 0 (riseW_b90_H c q pos ln lost o4 r)) (rgA Tryd.f43 90) (rgB Tryd.f43 90) ⟨frm 178 [(1, .ref 2 0), (4, .ref 3 0), (5, .ref 4 0), (90, .it 5), (91, .i e90.1), (92, .i e90.2)], riseW_b90_H c q pos ln lost o4 s⟩ := by
  unfold riseW_b90 at h
  cases s with
  | s0 r90s0_7 =>
    have h : riseW_b90_e0 n c q pos ln lost o4 e90 r90s0_7 = some r := h
    unfold riseW_b90_e0 at h
    refine ag sch_riseW [0, 1, 2, 3, 4, 5, 6, 7, 8] (H0.t) (frm 178 [(1, .ref 2 0), (5, .ref 4 0), (10, .ref 8 0), (11, .i e90.2)]) (hp_riseW_9 c q pos ln lost o4 r90s0_7 e90) ?_
    intro N
    obtain ⟨⟨b90_g0, b90_g1, b90_g2, b90_g3⟩, h⟩ := guardSome h
    obtain ⟨b90_y1, hb90_y1, h⟩ := bindSome h
    refine gs sch_riseW [0, 1, 2, 3, 4, 5, 8, 9, 6, 7] (H0.g b90_g0 |>.g b90_g1 |>.g b90_g2 |>.c (symbols_it b90_g3 (hp_riseW_10 c q pos ln lost o4 r90s0_7 e90))) (atT (rgB Tryd.f43 90) 103 []) (frm 178 [(1, .ref 2 0), (5, .ref 4 0), (10, .ref 6 0), (103, .it 7)]) (hp_riseW_11 c q pos ln lost e90 o4 r90s0_7) ?_
    refine r0 7 103 #[104] encI 8 hb90_y1 (riseW_b90_b103_ok n c q pos ln lost e90 o4) ?_
    cases b90_y1 with
    | s0 b90_y1_0_0 =>
      dsimp only at h
      cases h
      exact rr sch_riseW [0, 1, 2, 3, 4, 5, 8, 9] rfl H0
inductive riseW_b57T where
  | s0 (r57s0_7 : List Int)
def riseW_b57_H (c : ConsD) (x41 : Int) (q : ProbD) (pos : List Int) (ln : Nat) (lost : List Int) : riseW_b57T → DH
  | .s0 r57s0_7 => [some (.cells (consC c ++ probC q ++ [.ints pos, .msl 1 1 0 ln])), some (.ints lost), some (.cells [.ref 0 0]), some (.cells [.msl 7 1 0 ((((c.cells.length : Int) + 1)).toNat)]), some (.cells [.msl 8 1 0 ((((c.cells.length : Int) + 1)).toNat)]), some (.cells [.i x41]), none, some (.ints r57s0_7), some (.ints ((List.replicate ((((c.cells.length : Int) + 1)).toNat) (0 : Int)).set (0 + c.cells.length) 100))]
def riseW_b57_e0 (n : Nat) (c : ConsD) (x41 : Int) (q : ProbD) (pos : List Int) (ln : Nat) (lost : List Int) (e57 : Int) (r57s0_7 : List Int) : Option riseW_b57T :=
  if (0 ≤ e57 ∧ e57 < (q.values.length : Int)) ∧ (0 ≤ x41 ∧ x41 < (((((c.cells.length : Int) + 1)).toNat : Nat) : Int)) ∧ 0 + ((x41).toNat) < r57s0_7.length then
   bif (decide ((q.values.getD ((e57).toNat) 0) > (r57s0_7.getD (0 + ((x41).toNat)) 0))) then
    if R64 (x41 + 1) ∧ (0 ≤ (x41 + 1) ∧ (x41 + 1) < (((((c.cells.length : Int) + 1)).toNat : Nat) : Int)) ∧ 0 + (((x41 + 1)).toNat) < r57s0_7.length then
     some (.s0 (r57s0_7.set (0 + (((x41 + 1)).toNat)) (if (q.values.getD ((e57).toNat) 0) < (r57s0_7.getD (0 + (((x41 + 1)).toNat)) 0) then (q.values.getD ((e57).toNat) 0) else (r57s0_7.getD (0 + (((x41 + 1)).toNat)) 0))))
    else none
   else
    some (.s0 r57s0_7)
  else none
def riseW_b57_l0 (n : Nat) (c : ConsD) (x41 : Int) (q : ProbD) (pos : List Int) (ln : Nat) (lost : List Int) (e57 : Int) : riseW_b57T → Option riseW_b57T
  | .s0 r57s0_7 => riseW_b57_e0 n c x41 q pos ln lost e57 r57s0_7
def riseW_b57 (n : Nat) (c : ConsD) (x41 : Int) (q : ProbD) (pos : List Int) (ln : Nat) (lost : List Int) (e57 : Int) (s : riseW_b57T) : Option riseW_b57T := riseW_b57_l0 n c x41 q pos ln lost e57 s
theorem riseW_b57_ok (n : Nat) (c : ConsD) (x41 : Int) (q : ProbD) (pos : List Int) (ln : Nat) (lost : List Int) (l B : Nat) (N : Yard Tryd.prog GG 7) (e57 : Int) (s : riseW_b57T) (r : riseW_b57T) (h : riseW_b57 n c x41 q pos ln lost e57 s = some r) : TrA Tryd.prog GG (Fence.wide.inRound l) (some B) 7 N (RndQ 7 [] 0 (riseW_b57_H c x41 q pos ln lost r)) (rgA Tryd.f43 57) (rgB Tryd.f43 57) ⟨frm 178 [(1, .ref 2 0), (4, .ref 3 0), (5, .ref 4 0), (6, .ref 5 0), (39, .ints c.cells), (40, .i (c.cells.length : Int)), (41, .i x41), (57, .it 6), (58, .i e57)], riseW_b57_H c x41 q pos ln lost s⟩ := by
  unfold riseW_b57 at h
  cases s with
  | s0 r57s0_7 =>
    have h : riseW_b57_e0 n c x41 q pos ln lost e57 r57s0_7 = some r := h
    unfold riseW_b57_e0 at h
    refine ag sch_riseW [0, 1, 2, 3, 4, 5, 6, 7, 8] H0 (frm 178 [(1, .ref 2 0), (4, .ref 3 0), (6, .ref 5 0), (8, .i e57)]) (hp_riseW_8 c q pos ln lost x41 r57s0_7) ?_
    intro N
    obtain ⟨⟨b57_g0, b57_g1, b57_g2⟩, h⟩ := guardSome h
    have p := H0.g b57_g0 |>.g b57_g1 |>.g b57_g2
    rcases bifSome h with ⟨b57_c0, h⟩ | ⟨b57_c0, h⟩
    · obtain ⟨⟨b57_g3, b57_g4, b57_g5⟩, h⟩ := guardSome h
      cases h
      exact rr sch_riseW [0, 1, 2, 3, 4, 5, 6, 7, 8] rfl (p.b 72 b57_c0 |>.g s_riseW_12 |>.w 75 b57_g3 |>.w 78 b57_g3 |>.g b57_g4 |>.g b57_g5 |>.g b57_g4 |>.g b57_g5)
    · cases h
      exact rr sch_riseW [0, 1, 2, 3, 4, 5, 6, 7, 8] rfl (p.b 72 b57_c0)
inductive riseWPt where
  | l1 (x41 : Int) (o4 : List Int)
  | l2 (x135 : Int) (o1 o4 o6 : List Int)
def riseW_l1 (n : Nat) (self : riseWPt → Option (Bool × (List Int))) (c : ConsD) (q : ProbD) (pos : List Int) (ln : Nat) (lost : List Int) (x41 : Int) (o4 : List Int) : Option (Bool × (List Int)) :=
  bif (decide (x41 < (c.cells.length : Int))) then
   if (0 ≤ x41 ∧ x41 < (c.cells.length : Int)) ∧ R64 (x41 + 1) ∧ (0 ≤ (x41 + 1) ∧ (x41 + 1) < (((((c.cells.length : Int) + 1)).toNat : Nat) : Int)) ∧ 0 + (((x41 + 1)).toNat) < o4.length ∧ (0 ≤ (c.cells.getD ((x41).toNat) 0) ∧ (c.cells.getD ((x41).toNat) 0) < (pos.length : Int)) ∧ (0 ≤ (pos.getD ((c.cells.getD ((x41).toNat) 0).toNat) 0) ∧ (pos.getD ((c.cells.getD ((x41).toNat) 0).toNat) 0) < 9223372036854775808) then
    (foldO (riseW_b57 n c x41 q pos ln lost) (symsI (pos.getD ((c.cells.getD ((x41).toNat) 0).toNat) 0)) (.s0 (o4.set (0 + (((x41 + 1)).toNat)) 100))).bind fun y1 =>
     match y1 with
     | .s0 y1_0_0 =>
      if R64 (x41 + 1) then
       self (.l1 (x41 + 1) y1_0_0)
      else none
   else none
  else
   (back n c.cells).bind fun y1 =>
    (foldO (riseW_b90 n c q pos ln lost o4) y1 (.s0 ((List.replicate ((((c.cells.length : Int) + 1)).toNat) (0 : Int)).set (0 + c.cells.length) 100))).bind fun y2 =>
     match y2 with
     | .s0 y2_0_0 =>
      self (.l2 0 lost o4 y2_0_0)
def riseW_l2 (n : Nat) (self : riseWPt → Option (Bool × (List Int))) (c : ConsD) (q : ProbD) (pos : List Int) (ln : Nat) (lost : List Int) (x135 : Int) (o1 o4 o6 : List Int) : Option (Bool × (List Int)) :=
  bif (decide (x135 < (c.cells.length : Int))) then
   if (0 ≤ x135 ∧ x135 < (c.cells.length : Int)) ∧ (0 ≤ (c.cells.getD ((x135).toNat) 0) ∧ (c.cells.getD ((x135).toNat) 0) < (pos.length : Int)) ∧ (0 ≤ (pos.getD ((c.cells.getD ((x135).toNat) 0).toNat) 0) ∧ (pos.getD ((c.cells.getD ((x135).toNat) 0).toNat) 0) < 9223372036854775808) then
    (foldO (riseW_b147 n c x135 q pos ln o4 o6) (symsI (pos.getD ((c.cells.getD ((x135).toNat) 0).toNat) 0)) (.s0 o1)).bind fun y1 =>
     match y1 with
     | .s0 y1_0_0 =>
      if R64 (x135 + 1) then
       self (.l2 (x135 + 1) y1_0_0 o4 o6)
      else none
   else none
  else
   some (true, o1)
def riseW_l0 (n : Nat) (self : riseWPt → Option (Bool × (List Int))) (c : ConsD) (q : ProbD) (pos : List Int) (ln : Nat) (lost : List Int) : Option (Bool × (List Int)) :=
  if R64 ((c.cells.length : Int) + 1) ∧ ((((c.cells.length : Int) + 1) : Int) = ((c.cells.length : Int) + 1) ∧ (0 : Int) ≤ ((c.cells.length : Int) + 1) ∧ (((c.cells.length : Int) + 1) : Int) ≤ 1000000000000) ∧ ((0 : Int) ≤ 0 ∧ 0 < (((((c.cells.length : Int) + 1)).toNat : Nat) : Int)) ∧ 0 + 0 < (List.replicate ((((c.cells.length : Int) + 1)).toNat) (0 : Int)).length ∧ (0 ≤ (c.cells.length : Int) ∧ (c.cells.length : Int) < (((((c.cells.length : Int) + 1)).toNat : Nat) : Int)) ∧ 0 + c.cells.length < (List.replicate ((((c.cells.length : Int) + 1)).toNat) (0 : Int)).length then
   self (.l1 0 ((List.replicate ((((c.cells.length : Int) + 1)).toNat) (0 : Int)).set (0 + 0) (-1)))
  else none
def riseW_m (c : ConsD) (q : ProbD) (pos : List Int) (ln : Nat) (lost : List Int) : Nat → riseWPt → Option (Bool × (List Int))
  | 0, _ => none
  | n + 1, .l1 x41 o4 => riseW_l1 n (riseW_m c q pos ln lost n) c q pos ln lost x41 o4
  | n + 1, .l2 x135 o1 o4 o6 => riseW_l2 n (riseW_m c q pos ln lost n) c q pos ln lost x135 o1 o4 o6
def riseW (n : Nat) (c : ConsD) (q : ProbD) (pos : List Int) (ln : Nat) (lost : List Int) : Option (Bool × (List Int)) := riseW_l0 n (riseW_m c q pos ln lost n) c q pos ln lost
/-- What the points stand for. -/
def riseW_at (n : Nat) (B : Nat) (N : Yard Tryd.prog GG 2) (c : ConsD) (q : ProbD) (pos : List Int) (ln : Nat) (lost : List Int) (r : Bool × (List Int)) : riseWPt → Prop
  | .l1 x41 o4 => ∀ m0 : Nat, n ≤ m0 → TrK Tryd.prog GG Fence.wide (some B) 2 N (Fin Tryd.prog Tryd.f43 2 (.bool r.1) [some (.cells (consC c ++ probC q ++ [.ints pos, .msl 1 1 0 ln])), some (.ints r.2)]) (toN m0 (atNC (bodyC Tryd.f43) 0 [])) ⟨frm 178 [(1, .ref 2 0), (4, .ref 3 0), (5, .ref 5 0), (39, .ints c.cells), (40, .i (c.cells.length : Int)), (41, .i x41)], [some (.cells (consC c ++ probC q ++ [.ints pos, .msl 1 1 0 ln])), some (.ints lost), some (.cells [.ref 0 0]), some (.cells [.msl 4 1 0 ((((c.cells.length : Int) + 1)).toNat)]), some (.ints o4), some (.cells [.msl 6 1 0 ((((c.cells.length : Int) + 1)).toNat)]), some (.ints ((List.replicate ((((c.cells.length : Int) + 1)).toNat) (0 : Int)).set (0 + c.cells.length) 100))]⟩
  | .l2 x135 o1 o4 o6 => ∀ m0 : Nat, n ≤ m0 → TrK Tryd.prog GG Fence.wide (some B) 2 N (Fin Tryd.prog Tryd.f43 2 (.bool r.1) [some (.cells (consC c ++ probC q ++ [.ints pos, .msl 1 1 0 ln])), some (.ints r.2)]) (toN m0 (atNC (bodyC Tryd.f43) 8 [])) ⟨frm 178 [(1, .ref 2 0), (4, .ref 3 0), (5, .ref 5 0), (133, .ints c.cells), (134, .i (c.cells.length : Int)), (135, .i x135)], [some (.cells (consC c ++ probC q ++ [.ints pos, .msl 1 1 0 ln])), some (.ints o1), some (.cells [.ref 0 0]), some (.cells [.msl 4 1 0 ((((c.cells.length : Int) + 1)).toNat)]), some (.ints o4), some (.cells [.msl 6 1 0 ((((c.cells.length : Int) + 1)).toNat)]), some (.ints o6)]⟩
theorem riseW_all (B : Nat) (N : Yard Tryd.prog GG 2) (c : ConsD) (q : ProbD) (pos : List Int) (ln : Nat) (lost : List Int) : ∀ (n : Nat) (pt : riseWPt) (r : Bool × (List Int)), riseW_m c q pos ln lost n pt = some r → riseW_at n B N c q pos ln lost r pt := by
  intro n; induction n with
  | zero => intro _ _ h; cases h
  | succ n hself =>
   intro pt r h
   cases pt
   case l1 x41 o4 =>
    have h : riseW_l1 n (riseW_m c q pos ln lost n) c q pos ln lost x41 o4 = some r := h
    intro m0 hm0
    refine rd hm0 fun m0 hm0 => ?_
    unfold riseW_l1 at h
    rcases bifSome h with ⟨c0, h⟩ | ⟨c0, h⟩
    · obtain ⟨⟨g0, g1, g2, g3, g4, g5⟩, h⟩ := guardSome h
      obtain ⟨y1, hy1, h⟩ := bindSome h
      refine gs sch_riseW [0, 1, 2, 3, 5, 7, 8, 4, 6] (H0.b 42 c0 |>.g g0 |>.t |>.w 48 g1 |>.g g2 |>.g g3 |>.g g4 |>.c (symbols_it g5 (hp_riseW_2 c q pos ln lost o4 x41))) (atT (bodyC Tryd.f43) 57 [m0]) (frm 178 [(1, .ref 2 0), (4, .ref 3 0), (5, .ref 4 0), (6, .ref 5 0), (39, .ints c.cells), (40, .i (c.cells.length : Int)), (41, .i x41), (57, .it 6)]) (hp_riseW_3 c q pos ln lost x41 o4) ?_
      refine r0 6 57 #[58] encI 7 hy1 (riseW_b57_ok n c x41 q pos ln lost) ?_
      cases y1 with
      | s0 y1_0_0 =>
        dsimp only at h
        obtain ⟨g6, h⟩ := guardSome h
        exact gg sch_riseW [0, 1, 2, 3, 7, 4, 8] (H0.w 84 g6) (hself _ _ h m0 hm0)
    · obtain ⟨y1, hy1, h⟩ := bindSome h
      obtain ⟨y2, hy2, h⟩ := bindSome h
      refine gs sch_riseW [0, 1, 2, 3, 5, 7, 4, 6] (H0.b 42 c0 |>.c (backM_iter hy1 (hp_riseW_4 c q pos ln lost o4))) (atT (bodyC Tryd.f43) 90 []) (frm 178 [(1, .ref 2 0), (4, .ref 3 0), (5, .ref 4 0), (90, .it 5)]) (hp_riseW_5 c q pos ln lost y1 o4) ?_
      refine r0 5 90 #[91, 92] encII 6 hy2 (riseW_b90_ok n c q pos ln lost o4) ?_
      cases y2 with
      | s0 y2_0_0 =>
        dsimp only at h
        exact gg sch_riseW [0, 1, 2, 3, 6, 4, 7] H0 (en n (hself _ _ h n (Nat.le_refl _)))
   case l2 x135 o1 o4 o6 =>
    have h : riseW_l2 n (riseW_m c q pos ln lost n) c q pos ln lost x135 o1 o4 o6 = some r := h
    intro m0 hm0
    refine rd hm0 fun m0 hm0 => ?_
    unfold riseW_l2 at h
    rcases bifSome h with ⟨c0, h⟩ | ⟨c0, h⟩
    · obtain ⟨⟨g0, g1, g2⟩, h⟩ := guardSome h
      obtain ⟨y1, hy1, h⟩ := bindSome h
      refine gs sch_riseW [0, 1, 2, 3, 5, 7, 8, 9, 4, 6] (H0.b 136 c0 |>.g g0 |>.t |>.t |>.g s_riseW_26 |>.g g1 |>.c (symbols_it g2 (hp_riseW_6 c q pos ln o1 o4 o6 x135))) (atT (bodyC Tryd.f43) 147 [m0]) (frm 178 [(1, .ref 2 0), (4, .ref 3 0), (5, .ref 4 0), (14, .ref 5 0), (15, .ref 6 0), (133, .ints c.cells), (134, .i (c.cells.length : Int)), (135, .i x135), (147, .it 7)]) (hp_riseW_7 c q pos ln o1 x135 o4 o6) ?_
      refine r0 7 147 #[148] encI 8 hy1 (riseW_b147_ok n c x135 q pos ln o4 o6) ?_
      cases y1 with
      | s0 y1_0_0 =>
        dsimp only at h
        obtain ⟨g3, h⟩ := guardSome h
        exact gg sch_riseW [0, 1, 2, 3, 8, 4, 9] (H0.w 177 g3) (hself _ _ h m0 hm0)
    · cases h
      exact ee sch_riseW [2] [0, 1] (H0.b 136 c0)
theorem riseW_ok {n : Nat} {c : ConsD} {q : ProbD} {pos : List Int} {ln : Nat} {lost : List Int} {r : Bool × (List Int)} (h : riseW n c q pos ln lost = some r) : ES Tryd.prog GG 43 [.ref 0 0] [some (.cells (consC c ++ probC q ++ [.ints pos, .msl 1 1 0 ln])), some (.ints lost)] (.bool r.1) [some (.cells (consC c ++ probC q ++ [.ints pos, .msl 1 1 0 ln])), some (.ints r.2)] false := by
  refine ot Tryd.func43 fun B N => ?_
  have hself := riseW_all B N c q pos ln lost n
  unfold riseW at h
  unfold riseW_l0 at h
  obtain ⟨⟨g0, g1, g2, g3, g4, g5⟩, h⟩ := guardSome h
  exact gg (tg := [([], (tgt_riseW_0 c q pos ln lost)), ([(4, 3)], (tgt_riseW_1 c q pos ln lost))]) sch_riseW [0, 1, 2, 5, 3, 6, 4] (H0.g s_riseW_2 |>.w 25 g0 |>.w 28 g0 |>.g g1 |>.g g1 |>.t |>.t |>.g (Eq.refl (tgt_riseW_0 c q pos ln lost)) |>.t |>.t |>.g (Eq.refl (tgt_riseW_0 c q pos ln lost)) |>.g g1 |>.t |>.t |>.g (Eq.refl (tgt_riseW_0 c q pos ln lost)) |>.g g1 |>.t |>.t |>.g (Eq.refl (tgt_riseW_0 c q pos ln lost)) |>.t |>.g g1 |>.t |>.g (Eq.refl (tgt_riseW_0 c q pos ln lost)) |>.g g1 |>.t |>.t |>.g (Eq.refl (tgt_riseW_0 c q pos ln lost)) |>.g g1 |>.t |>.t |>.g (Eq.refl (tgt_riseW_0 c q pos ln lost)) |>.t |>.g g1 |>.t |>.g (Eq.refl (tgt_riseW_0 c q pos ln lost)) |>.g g1 |>.g g1 |>.t |>.t |>.g (Eq.refl (tgt_riseW_0 c q pos ln lost)) |>.t |>.t |>.g (Eq.refl (tgt_riseW_0 c q pos ln lost)) |>.g g1 |>.t |>.t |>.g (Eq.refl (tgt_riseW_0 c q pos ln lost)) |>.g g1 |>.t |>.t |>.g (Eq.refl (tgt_riseW_0 c q pos ln lost)) |>.g g1 |>.t |>.t |>.g (Eq.refl (tgt_riseW_0 c q pos ln lost)) |>.g g1 |>.t |>.t |>.g (Eq.refl (tgt_riseW_0 c q pos ln lost)) |>.g g1 |>.g g1 |>.t |>.t |>.g (Eq.refl (tgt_riseW_0 c q pos ln lost)) |>.g g1 |>.t |>.t |>.g (Eq.refl (tgt_riseW_0 c q pos ln lost)) |>.t |>.g g1 |>.t |>.g (Eq.refl (tgt_riseW_0 c q pos ln lost)) |>.g g1 |>.g g1 |>.t |>.t |>.g (Eq.refl (tgt_riseW_0 c q pos ln lost)) |>.g g1 |>.t |>.t |>.g (Eq.refl (tgt_riseW_0 c q pos ln lost)) |>.g g1 |>.g g1 |>.t |>.t |>.g (Eq.refl (tgt_riseW_0 c q pos ln lost)) |>.t |>.g g1 |>.t |>.g (Eq.refl (tgt_riseW_0 c q pos ln lost)) |>.g g1 |>.g g1 |>.t |>.t |>.g (Eq.refl (tgt_riseW_0 c q pos ln lost)) |>.g g1 |>.g g1 |>.t |>.t |>.g (Eq.refl (tgt_riseW_0 c q pos ln lost)) |>.g g1 |>.t |>.t |>.g (Eq.refl (tgt_riseW_0 c q pos ln lost)) |>.t |>.g g1 |>.t |>.g (Eq.refl (tgt_riseW_0 c q pos ln lost)) |>.g g1 |>.g g1 |>.t |>.t |>.g (Eq.refl (tgt_riseW_0 c q pos ln lost)) |>.g g1 |>.t |>.t |>.g (Eq.refl (tgt_riseW_0 c q pos ln lost)) |>.g g1 |>.g g1 |>.t |>.t |>.g (Eq.refl (tgt_riseW_0 c q pos ln lost)) |>.t |>.g g1 |>.t |>.g (Eq.refl (tgt_riseW_0 c q pos ln lost)) |>.g g1 |>.g g1 |>.t |>.t |>.g (Eq.refl (tgt_riseW_0 c q pos ln lost)) |>.g s_riseW_3 |>.g g2 |>.g g3 |>.g g4 |>.g g5 |>.g (Eq.refl (tgt_riseW_1 c q pos ln lost))) (en n (hself _ _ h n (Nat.le_refl _)))
end Go.Proofs.YtekkngkphejfcaaDoor
namespace Go.Proofs.YtekkngkphejfcaaDoor
open Go.RowKit
/-- A map's block, its entries, its clock. -/
abbrev LK := Nat × Array MapEntry × Nat
theorem lkOff_none {i : Nat} : lkOff none i := fun _ h => by cases h
theorem lkOff_some {i j : Nat} {g : LK} (h : i ≠ j) : lkOff (some (i, g)) j := fun y e => by cases e; exact h
/-- Whichever comes next: the same is to come of it. -/
def onNext {R : Type} [DecidableEq R] (rem : KS) (a : Option R) (f : List Int → Option R) : Option R := match rem with
  | [] => a
  | x :: r => match f x with
    | none => none
    | some v => if r.all (fun y => decide (f y = some v)) then some v else none
theorem onNext_spec {R : Type} [DecidableEq R] {rem : KS} {a : Option R} {f : List Int → Option R} {r : R} (h : onNext rem a f = some r) : (rem = [] → a = some r) ∧ ∀ y ∈ rem, f y = some r := by
  cases rem with
  | nil => exact ⟨fun _ => h, fun y hy => absurd hy List.not_mem_nil⟩
  | cons x l =>
    refine ⟨fun e => absurd e (List.cons_ne_nil x l), ?_⟩
    unfold onNext at h
    simp only at h
    cases hx : f x with
    | none => rw [hx] at h; cases h
    | some v =>
      rw [hx] at h
      simp only at h
      split at h
      · rename_i hc
        cases h
        intro y hy
        rcases List.mem_cons.1 hy with rfl | hy
        · exact hx
        · exact of_decide_eq_true (List.all_eq_true.1 hc y hy)
      · cases h
theorem run_next_at {P : Program} {w : World} {r bm since c0 clock : Nat} {seen : Array Nat} {es : Array MapEntry} (hr : w.heap[r]? = some (.mapIter (some bm) since seen c0)) (hb : w.heap[bm]? = some (.map es clock)) (hold : ∀ x ∈ es.toList, x.born < since) (hsc : since ≤ c0) (ty : TypeId) :
    ((leftOf es seen).size = 0 ∧ (Instr.next (.pointer (some ⟨r, 0, none⟩)) false ty).run P w = .ok (.tuple #[.bool false]) w) ∨
    ∃ e ∈ (leftOf es seen).toList, ∃ w1 : World, (w1 = w ∨ w1 = w.drew) ∧ (Instr.next (.pointer (some ⟨r, 0, none⟩)) false ty).run P w = .ok (.tuple #[.bool true, e.key, e.val]) { w1 with heap := w1.heap.setIfInBounds r (.mapIter (some bm) since (seen.push e.born) clock) } := by
  simp only [Instr.next, getObj, Sem.run_bind, Sem.run, hr, hb, Result.andThen, next_test_false seen es since c0 hold hsc, Bool.false_eq_true, if_false]
  unfold leftOf
  have hmem : ∀ x ∈ (Array.filter (fun e => !seen.contains e.born) es).toList, x.born < since := fun x hx => hold x (by simp at hx ⊢; exact hx.1)
  generalize Array.filter (fun e => !seen.contains e.born) es = L at hmem ⊢
  have e1 : L.filter (fun x => decide (x.born < since)) = L := Array.filter_eq_self.2 (fun x hx => by simpa using hmem x (by simpa using hx))
  have e2 : L.filter (fun x => decide (x.born ≥ since)) = #[] := by
    rw [Array.filter_eq_empty_iff]
    intro x hx
    have := hmem x (by simpa using hx)
    simp
    omega
  simp only [e1, e2, Array.append_empty]
  by_cases h0 : L.size = 0
  · left
    have : L = #[] := Array.eq_empty_of_size_eq_zero h0
    subst this
    refine ⟨rfl, ?_⟩
    simp [choose, Sem.run, Question.forced]
  · right
    have hne : L.isEmpty = false := by simp [Array.isEmpty, h0]
    simp only [hne, Bool.false_eq_true, if_false, Array.empty_append, Array.size_map]
    have hch : ∃ (j : Nat) (w1 : World), j < L.size ∧ (w1 = w ∨ w1 = w.drew) ∧ (choose (Question.mapNext L.size)).run P w = .ok j w1 := by
      by_cases hf : L.size ≤ 1
      · exact ⟨0, w, by omega, .inl rfl, by simp [choose, Sem.run, Question.forced, hf]⟩
      · exact ⟨_, w.drew, Nat.mod_lt _ (by omega), .inr rfl, by
          simp only [choose, Sem.run, Question.forced, decide_eq_true_eq, hf, if_false, Question.cut]
          rfl⟩
    obtain ⟨j, w1, hj, hal, hrun⟩ := hch
    have hr1 : w1.heap[r]? = some (.mapIter (some bm) since seen c0) := by rcases hal with rfl | rfl <;> exact hr
    refine ⟨L[j], by simp, w1, hal, ?_⟩
    simp only [hrun, Array.getElem?_map, Array.getElem?_eq_getElem hj, Option.map_some, Sem.run_bind, setObj, Sem.run, hr1, Result.andThen]
    rfl
section
variable {P : Program} {Γ : Glo} {N : Nat → Prop} {S : St} {ρ : List Place} {a : Act} {w : World} {F : Fence} {B : Option Nat} {L : Nat} {Y : Yard P Γ L} {Q : QY P Γ L}
/-- An object of maps is read otherwise. -/
theorem Rel.setMo (R : Rel P Γ N S ρ a w) {k : Nat} {x x' : MX} {p : Place} (hk : S.h[k]? = some (some (.mo x))) (hp : ρ[k]? = some p) (hO : MXRep w p x') (hc : ∀ b, p.foot b → Lies w b) :
    Rel P Γ N ⟨S.fr, S.h.set k (some (.mo x'))⟩ ρ a w ∧ Step S.h ρ w (S.h.set k (some (.mo x'))) ρ w :=
  ⟨⟨R.hr.write hk hp (Upd.refl _ _) hc hO, R.fr.out (Outl.write trivial hk hp (Upd.refl p.foot w))⟩, Step.write hk hp (Upd.refl _ _)⟩
theorem SetsAt.relock {p : Place} {n : Nat} {ls : List (Option KS)} {vs : Array Value} (hS : SetsAt w p n ls none vs) {i : Nat} (hi : (ls.getD i none).isSome = true) : ∃ g : LK, SetsAt w p n ls (some (i, g)) vs := by
  obtain ⟨mb, g1, g2, g3, es, clock, g4, _⟩ := hS.has i _ (getD_isSome hi)
  refine ⟨(mb, es, clock), { hS with has := fun j l hl => ?_ }⟩
  by_cases e : j = i
  · subst e
    have : l = (ls.getD j none).getD [] := by have := getD_isSome hi; rw [hl] at this; exact Option.some.inj (Option.some.inj this)
    subst this
    exact ⟨mb, g1, g2, g3, es, clock, g4, fun x hx _ => by cases hx; rfl⟩
  · obtain ⟨b, k1, k2, k3, es1, c1, k4, _⟩ := hS.has j l hl
    exact ⟨b, k1, k2, k3, es1, c1, k4, fun x hx hj => by cases hx; exact absurd hj.symm e⟩
theorem SetsAt.unlock {p : Place} {n : Nat} {ls : List (Option KS)} {lk : Option (Nat × LK)} {vs : Array Value} (hS : SetsAt w p n ls lk vs) : SetsAt w p n ls none vs :=
  { hS with has := fun j l hl => let ⟨b, k1, k2, k3, es1, c1, k4, _⟩ := hS.has j l hl; ⟨b, k1, k2, k3, es1, c1, k4, fun x hx => by cases hx⟩ }
/-- An element of a row of maps is held fast. -/
theorem Tr.lock {c : Code} {j i n : Nat} {ls : List (Option KS)} (hk : S.h[j]? = some (some (.mo (.sets n ls none)))) (hi : (ls.getD i none).isSome = true) (H : ∀ g : LK, Tr P Γ F B L Y c ⟨S.fr, S.h.set j (some (.mo (.sets n ls (some (i, g)))))⟩ Q) : Tr P Γ F B L Y c S Q := fun N ρ a w R y m b => by
  obtain ⟨p, hp, vs, hS⟩ := R.hr.obj j _ hk
  obtain ⟨g, hS'⟩ := hS.relock hi
  obtain ⟨R', st⟩ := R.setMo hk hp (x' := .sets n ls (some (i, g))) ⟨vs, hS'⟩ fun b hb => hS.lies hb
  exact H g N ρ a w R' (Y.st y R.hr R'.hr st (Kept.refl _ _)) m b
def isC : List KI → Bool
  | .code _ :: _ => true
  | _ => false
theorem TrK.lock {K : List KI} {fr : List DV} {h : DH} (j i n : Nat) {ls : List (Option KS)} (hk : h[j]? = some (some (.mo (.sets n ls none)))) (hi : (ls.getD i none).isSome = true) (hK : isC K = true) (h' : LK → DH) (he : h' = fun g => h.set j (some (.mo (.sets n ls (some (i, g)))))) (H : ∀ g : LK, TrG P Γ F B L Y Q K ⟨fr, h' g⟩) : TrG P Γ F B L Y Q K ⟨fr, h⟩ := by
  subst he
  unfold isC at hK
  split at hK
  · exact Tr.lock (S := ⟨fr, h⟩) hk hi H
  · cases hK
/-- What comes next. -/
theorem next_view (R : Rel P Γ N S ρ a w) {m j n n' i : Nat} {ls : List (Option KS)} {g : LK} {rem : KS} {cur : Option (List Int)} (hm : S.h[m]? = some (some (.mo (.mit n g.1 g.2.1 g.2.2 rem cur)))) (hj : S.h[j]? = some (some (.mo (.sets n' ls (some (i, g)))))) (hi : (ls.getD i none).isSome = true) {v : Value} (hv : RepV (MS N S.h ρ) w (.it m) ρ v) (ty : TypeId) :
    (rem = [] ∧ (Instr.next v false ty).run P w = .ok (.tuple #[.bool false]) w) ∨ ∃ y ∈ rem, ∃ (k u : Value) (w' : World) (p : Place), (Instr.next v false ty).run P w = .ok (.tuple #[.bool true, k, u]) w' ∧ ρ[m]? = some p ∧ Upd p.foot w w' ∧ MXRep w' p (.mit n g.1 g.2.1 g.2.2 (rem.erase y) (some y)) ∧ ∀ b, p.foot b → Lies w' b := by
  obtain ⟨p, hp, rfl⟩ := hv
  obtain ⟨p', hp', h0, h1, h2, seen, h3, h4, h5⟩ := R.hr.obj m _ hm
  have : p' = p := Option.some.inj (hp'.symm.trans hp)
  subst this
  obtain ⟨q, hq, vs, hS⟩ := R.hr.obj j _ hj
  obtain ⟨b, k1, k2, k3, es1, clock1, k4, k5⟩ := hS.has i _ (getD_isSome hi)
  have k5 := k5 _ rfl rfl
  obtain ⟨mb, es, clock⟩ := g
  have e3 : mb = b ∧ es = es1 ∧ clock = clock1 := by
    have : (mb, es, clock) = (b, es1, clock1) := k5
    simpa using this
  obtain ⟨rfl, rfl, rfl⟩ := e3
  simp only at h3 h4 h5
  rw [h1]
  have hold : ∀ x ∈ es.toList, x.born < clock := k4.born
  rcases run_next_at (P := P) h3 k4.blk hold (Nat.le_refl _) ty with ⟨e1, e2⟩ | ⟨e, he, w1, hw1, e2⟩
  · refine .inl ⟨?_, e2⟩
    have : (leftOf es seen) = #[] := Array.eq_empty_of_size_eq_zero e1
    rw [this] at h4
    have := h4.length_eq
    simp at this
    exact List.eq_nil_of_length_eq_zero this.symm
  · have hek : e.key ∈ rem.map keyV := h4.mem_iff.1 (List.mem_map.2 ⟨e, he, rfl⟩)
    obtain ⟨y, hy, hye⟩ := List.mem_map.1 hek
    have hes : e ∈ es.toList := by simp [leftOf] at he ⊢; exact he.1
    have hrlt : p'.blk < w.heap.size := (Array.getElem?_eq_some_iff.1 h3).1
    have hw1h : w1.heap = w.heap := by rcases hw1 with rfl | rfl <;> rfl
    have hU : Upd p'.foot w { w1 with heap := w1.heap.setIfInBounds p'.blk (.mapIter (some mb) clock (seen.push e.born) clock) } := by
      rw [h2]
      have u1 : Upd (fun k => k = p'.blk) w w1 := by
        rcases hw1 with rfl | rfl
        · exact Upd.refl _ _
        · exact Upd.ofExt (Ext.toDrew w)
      exact u1.trans (upd_setObj _)
    have hnew : ({ w1 with heap := w1.heap.setIfInBounds p'.blk (.mapIter (some mb) clock (seen.push e.born) clock) } : World).heap[p'.blk]? = some (.mapIter (some mb) clock (seen.push e.born) clock) := by
      show (w1.heap.setIfInBounds _ _)[_]? = _
      simp [hw1h, hrlt]
    refine .inr ⟨y, hy, e.key, e.val, _, p', e2, hp, hU, ⟨fun x hx => ?_, h1, h2, seen.push e.born, hnew, ?_, fun x hx => ?_⟩, fun b hb => ?_⟩
    · rcases hx with hx | hx
      · exact h0 x (.inl (List.mem_of_mem_erase hx))
      · have ex : y = x := Option.some.inj hx
        subst ex
        exact h0 y (.inl hy)
    · have hl : leftOf es (seen.push e.born) = (leftOf es seen).filter fun x => x.born != e.born := by
        unfold leftOf
        rw [Array.filter_filter]
        congr 1
        funext x
        simp only [Array.contains_push, Bool.not_or]
        rw [Bool.and_comm]
        simp [bne, Bool.beq_comm]
      have hnd : ((leftOf es seen).toList.map (·.born)).Nodup := by
        have : ((leftOf es seen).toList.map (·.born)).Sublist (es.toList.map (·.born)) := by
          unfold leftOf
          rw [Array.toList_filter]
          exact List.filter_sublist.map _
        exact this.nodup k4.stamps
      have hfil : ∀ (l : List MapEntry), (l.map (·.born)).Nodup → e ∈ l → (l.map (·.key)).Perm (e.key :: ((l.filter fun x => x.born != e.born).map (·.key))) := by
        intro l
        induction l with
        | nil => intro _ h; cases h
        | cons x l ih =>
          intro hn hx
          rw [List.map_cons, List.nodup_cons] at hn
          by_cases hxe : x = e
          · subst hxe
            have : (l.filter fun y => y.born != x.born) = l := List.filter_eq_self.2 fun y hy => by
              simp only [bne_iff_ne, ne_eq]
              exact fun hc => hn.1 (by rw [← hc]; exact List.mem_map.2 ⟨y, hy, rfl⟩)
            simp [this]
          · have hel : e ∈ l := (List.mem_cons.1 hx).resolve_left fun h => hxe h.symm
            have hne : (x.born != e.born) = true := by
              simp only [bne_iff_ne, ne_eq]
              exact fun hc => hn.1 (by rw [hc]; exact List.mem_map.2 ⟨e, hel, rfl⟩)
            rw [List.filter_cons, if_pos hne, List.map_cons, List.map_cons]
            exact ((ih hn.2 hel).cons x.key).trans (List.Perm.swap e.key x.key _)
      have P1 := hfil _ hnd he
      rw [hl, Array.toList_filter]
      have P2 : (rem.map keyV).Perm (keyV y :: (rem.erase y).map keyV) := (List.perm_cons_erase hy).map keyV
      have P3 := P1.symm.trans (h4.trans P2)
      rw [← hye] at P3
      exact List.Perm.cons_inv P3
    · have ex : y = x := Option.some.inj hx
      subst ex
      exact ⟨e, hes, hye.symm, by simp⟩
    · rw [h2] at hb
      exact ⟨_, rfl, (), by rw [show b = p'.blk from hb]; exact hnew⟩
/-- A region that opens with the step of a loop over a map: what follows upon its end, and upon each that may come. -/
theorem Tr.next (hF : FOk F P) {id : Nat} {ops : Array Oper} (hnd : noDefer ops = true) {o : Oper} {rest : List Oper} (hops : ops.toList = o :: rest) {x : Operand} (ho : o.op = .next x false) (hw : wantedD ops S o = some true) {m j n n' i : Nat} {ls : List (Option KS)} {g : LK} {rem : KS} {cur : Option (List Int)} (hx : opd S.fr x = .it m) (hm : S.h[m]? = some (some (.mo (.mit n g.1 g.2.1 g.2.2 rem cur)))) (hj : S.h[j]? = some (some (.mo (.sets n' ls (some (i, g)))))) (hmj : m ≠ j) (hi : (ls.getD i none).isSome = true)
    (h0 : rem = [] → ∃ S' vs o0 o', gseq P Γ ops rest ⟨setD S.fr o.dst (.tup 1 (L1 [.bool false])), (S.h.set j (some (.mo (.sets n' ls none)))).set m none⟩ o0 = some (S', vs, o') ∧ allP vs ∧ Q .normal S' Y)
    (h1 : ∀ y ∈ rem, ∃ S' vs o0 o', gseq P Γ ops rest ⟨setD S.fr o.dst (.tup 3 (L1 [.bool true])), S.h.set m (some (.mo (.mit n g.1 g.2.1 g.2.2 (rem.erase y) (some y))))⟩ o0 = some (S', vs, o') ∧ allP vs ∧ Q .normal S' Y) : Tr P Γ F B L Y (.region id ops false) S Q := fun N ρ a w R y mk b => by
  refine wpIn_region_list ?_
  rw [hops]
  have hd : ∀ c, o.op ≠ .defer c := fun c e => by rw [ho] at e; cases e
  have hl' : ∀ o' ∈ rest, o' ∈ ops := fun o' ho' => by
    have : o' ∈ ops.toList := by rw [hops]; exact List.mem_cons_of_mem _ ho'
    simpa using this
  have hdef : ∀ v, (a.put o.dst v).defers = a.defers := fun v => by cases ho : o.dst <;> simp [Act.put]
  have rx := opd_rep R x
  rw [hx] at rx
  unfold wpListIn
  rw [if_pos (wantedD_sound R hw)]
  have hex : execOp a.eval o = (do pure (.value (← Instr.next (a.eval x) false o.type))) := by unfold execOp; rw [ho]
  have hlt : m < S.h.length := (List.getElem?_eq_some_iff.1 hm).1
  rcases next_view R hm hj hi rx o.type with ⟨e1, e2⟩ | ⟨ky, hky, k, u, w', p, e2, hp, hU, hO, hC⟩
  · obtain ⟨S', vs, o0, o', g1, g2, g3⟩ := h0 e1
    obtain ⟨q, hq, vsj, hS⟩ := R.hr.obj j _ hj
    obtain ⟨R1, st1⟩ := R.setMo hj hq (x' := .sets n' ls none) ⟨vsj, hS.unlock⟩ fun b hb => hS.lies hb
    have R2 : Rel P Γ N ⟨S.fr, (S.h.set j (some (.mo (.sets n' ls none)))).set m none⟩ ρ a w := ⟨R1.hr.kill m, R1.fr.out (Outl.kill m)⟩
    have R3 := setD_rel R2 o.dst (d := .tup 1 (L1 [.bool false])) (v := .tuple #[.bool false]) ⟨#[.bool false], rfl, rfl, fun jj hjj => by
      have : jj = 0 := by omega
      subst this; exact ⟨_, rfl, rfl⟩⟩
    refine does_wpIn hF hd (G := fun v w2 => v = .tuple #[.bool false] ∧ w2 = w) (Does.value (s := Instr.next (a.eval x) false o.type) hex e2 ⟨rfl, rfl⟩) fun v w2 ⟨hv, hw2⟩ => ?_
    subst hv hw2
    refine gseq_sound hF hnd rest hl' R3 g1 g2 fun ρ' a' w3 R' st hdf => ?_
    exact Tr.done R y mk b g3 R' ((st1.trans (Step.kill m)).trans st.st) (fun k p _ hp => st.pl k p hp) (hdf.trans (hdef _))
  · obtain ⟨S', vs, o0, o', g1, g2, g3⟩ := h1 ky hky
    have st1 := Step.write (h := S.h) (o' := .mo (.mit n g.1 g.2.1 g.2.2 (rem.erase ky) (some ky))) hm hp hU
    have R1 : Rel P Γ N ⟨S.fr, S.h.set m (some (.mo (.mit n g.1 g.2.1 g.2.2 (rem.erase ky) (some ky))))⟩ ρ a w' := ⟨R.hr.write hm hp hU hC hO, R.fr.out (Outl.write trivial hm hp hU)⟩
    have R3 := setD_rel R1 o.dst (d := .tup 3 (L1 [.bool true])) (v := .tuple #[.bool true, k, u]) ⟨#[.bool true, k, u], rfl, rfl, fun jj hjj => by
      match jj, hjj with
      | 0, _ => exact ⟨_, rfl, rfl⟩
      | 1, _ => exact ⟨_, rfl, trivial⟩
      | 2, _ => exact ⟨_, rfl, trivial⟩⟩
    refine does_wpIn hF hd (G := fun v w2 => v = .tuple #[.bool true, k, u] ∧ w2 = w') (Does.value (s := Instr.next (a.eval x) false o.type) hex e2 ⟨rfl, rfl⟩) fun v w2 ⟨hv, hw2⟩ => ?_
    subst hv hw2
    refine gseq_sound hF hnd rest hl' R3 g1 g2 fun ρ' a' w3 R' st hdf => ?_
    exact Tr.done R y mk b g3 R' (st1.trans st.st) (fun k p _ hp => st.pl k p hp) (hdf.trans (hdef _))
/-- The parts of such a region. -/
def nxX (ops : Array Oper) : Operand := match ops.toList with
  | o :: _ => match o.op with
    | .next x _ => x
    | _ => .tmp 0
  | [] => .tmp 0
def nxD (ops : Array Oper) : Option Tmp := match ops.toList with
  | o :: _ => o.dst
  | [] => none
def nxR (ops : Array Oper) : List Oper := ops.toList.tail
def nxOk (ops : Array Oper) : Bool := match ops.toList with
  | o :: _ => match o.op with
    | .next _ false => o.guard.isNone && noDefer ops
    | _ => false
  | [] => false
theorem nxOk_spec {ops : Array Oper} (h : nxOk ops = true) : noDefer ops = true ∧ ∃ o, ops.toList = o :: nxR ops ∧ o.op = .next (nxX ops) false ∧ o.guard = none ∧ o.dst = nxD ops := by
  unfold nxOk at h
  unfold nxX nxD nxR
  split at h
  · rename_i o rest hops
    rw [hops]
    split at h
    · rename_i x ho
      simp only [Bool.and_eq_true, Option.isNone_iff_eq_none] at h
      refine ⟨h.2, o, rfl, ?_, h.1, rfl⟩
      simp only [ho]
    · cases h
  · cases h
def outG (live σ : List Nat) (L : Nat) (r : St × List Prop × Orc) : List DV × DH × List Prop × Bool := ((comp live σ r.1).fr, (comp live σ r.1).h, r.2.1, sigB σ L r.1.h.length)
/-- A step of a loop over a map, where it stands. -/
theorem TrG.nx (hX : HX F P) {K : List KI} {ops : Array Oper} {fr : List DV} {h : DH} (hK : regHead K = some (ops, tailS K)) (hok : nxOk ops = true) (m j i n : Nat) (ls : List (Option KS)) (g : LK) (rem : KS) (cur : Option (List Int)) (live σ : List Nat) (fr0 : List DV) (h0 : DH) (σ1 : List Nat) (fr1 : List Int → List DV) (h1 : List Int → DH)
    (hx : opd fr (nxX ops) = .it m) (hm : h[m]? = some (some (.mo (.mit n g.1 g.2.1 g.2.2 rem cur)))) (hj : h[j]? = some (some (.mo (.sets n ls (some (i, g)))))) (hmj : m ≠ j) (hi : (ls.getD i none).isSome = true) (hc : isCode (tailS K) = true)
    (c0 : (gseq P Γ ops (nxR ops) ⟨setD fr (nxD ops) (.tup 1 (L1 [.bool false])), (h.set j (some (.mo (.sets n ls none)))).set m none⟩ ⟨[], [], [], []⟩).map (outG live σ L) = some (fr0, h0, [], true))
    (c1 : ∀ y, (gseq P Γ ops (nxR ops) ⟨setD fr (nxD ops) (.tup 3 (L1 [.bool true])), h.set m (some (.mo (.mit n g.1 g.2.1 g.2.2 (rem.erase y) (some y))))⟩ ⟨[], [], [], []⟩).map (outG live σ1 L) = some (fr1 y, h1 y, [], true))
    (k0 : rem = [] → TrG P Γ F B L Y Q (tailS K) ⟨fr0, h0⟩) (k1 : ∀ y ∈ rem, TrG P Γ F B L Y Q (tailS K) ⟨fr1 y, h1 y⟩) : TrG P Γ F B L Y Q K ⟨fr, h⟩ := by
  have go : ∀ {S : St} {live σ : List Nat} {fr' : List DV} {h' : DH}, (gseq P Γ ops (nxR ops) S ⟨[], [], [], []⟩).map (outG live σ L) = some (fr', h', [], true) → TrG P Γ F B L Y Q (tailS K) ⟨fr', h'⟩ → ∃ S' vs o0 o', gseq P Γ ops (nxR ops) S o0 = some (S', vs, o') ∧ allP vs ∧ TrG P Γ F B L Y Q (tailS K) S' := by
    intro S live σ fr' h' hc0 hk
    cases hr : gseq P Γ ops (nxR ops) S ⟨[], [], [], []⟩ with
    | none => rw [hr] at hc0; cases hc0
    | some r =>
      obtain ⟨S1, v1, o1⟩ := r
      rw [hr] at hc0
      simp only [Option.map_some, outG, Option.some.injEq, Prod.mk.injEq] at hc0
      obtain ⟨rfl, rfl, rfl, hs⟩ := hc0
      exact ⟨S1, _, _, _, hr, trivial, TrK.le (SLe.comp live σ S1 hs) hc hk⟩
  unfold regHead at hK
  split at hK
  · rename_i id ops' k'
    have e := Option.some.inj hK
    simp only [tailS, Prod.mk.injEq, and_true] at e
    subst e
    obtain ⟨hnd, o, q1, q2, q3, q4⟩ := nxOk_spec hok
    exact Tr.next (S := ⟨fr, h⟩) hX.f hnd q1 q2 (by unfold wantedD; rw [q3]) hx hm hj hmj hi (fun e => by rw [q4]; exact go c0 (k0 e)) (fun y hy => by rw [q4]; exact go (c1 y) (k1 y hy))
  · cases hK
end
end Go.Proofs.YtekkngkphejfcaaDoor
namespace Go.Proofs
open Go.Shelf
def Tryd.lays189_ren : Go.Shelf.Ren := ⟨fun | 189 => 84 | 125 => 87 | 257 => 86 | 128 => 97 | 129 => 98 | 294 => 88 | 295 => 89 | 296 => 90 | 297 => 91 | 298 => 92 | 299 => 93 | 216 => 94 | 300 => 95 | 301 => 96 | 328 => 99 | 329 => 100 | 330 => 101 | 331 => 102 | 332 => 103 | 215 => 104 | 343 => 105 | n => n, fun | 28 => 22 | 3 => 3 | 46 => 82 | 0 => 0 | 51 => 109 | 53 => 63 | 4 => 4 | 183 => 130 | 182 => 129 | 131 => 133 | 5 => 5 | 9 => 9 | 218 => 135 | 222 => 139 | 228 => 141 | 229 => 89 | n => n, fun | n => n⟩
theorem Tryd.lays189 : Go.Proofs.Lays.n189 Tryd.prog Tryd.lays189_ren := {
  mixed := by kernel_rfl
  f125 := Tryd.func87.trans (congrArg some (by kernel_rfl))
  f128 := Tryd.func97.trans (congrArg some (by kernel_rfl))
  f129 := Tryd.func98.trans (congrArg some (by kernel_rfl))
  f189 := Tryd.func84.trans (congrArg some (by kernel_rfl))
  f215 := Tryd.func104.trans (congrArg some (by kernel_rfl))
  f216 := Tryd.func94.trans (congrArg some (by kernel_rfl))
  f257 := Tryd.func86.trans (congrArg some (by kernel_rfl))
  f294 := Tryd.func88.trans (congrArg some (by kernel_rfl))
  f295 := Tryd.func89.trans (congrArg some (by kernel_rfl))
  f296 := Tryd.func90.trans (congrArg some (by kernel_rfl))
  f297 := Tryd.func91.trans (congrArg some (by kernel_rfl))
  f298 := Tryd.func92.trans (congrArg some (by kernel_rfl))
  f299 := Tryd.func93.trans (congrArg some (by kernel_rfl))
  f300 := Tryd.func95.trans (congrArg some (by kernel_rfl))
  f301 := Tryd.func96.trans (congrArg some (by kernel_rfl))
  f328 := Tryd.func99.trans (congrArg some (by kernel_rfl))
  f329 := Tryd.func100.trans (congrArg some (by kernel_rfl))
  f330 := Tryd.func101.trans (congrArg some (by kernel_rfl))
  f331 := Tryd.func102.trans (congrArg some (by kernel_rfl))
  f332 := Tryd.func103.trans (congrArg some (by kernel_rfl))
  f343 := Tryd.func105.trans (congrArg some (by kernel_rfl))
  t0 := Tryd.underlying0
  a0 := Tryd.isAgg0
  z0 := Tryd.sizeOf0
  v0 := Tryd.zeroValue0
  t3 := Tryd.underlying3
  a3 := Tryd.isAgg3
  z3 := Tryd.sizeOf3
  v3 := Tryd.zeroValue3
  t4 := Tryd.underlying4
  a4 := Tryd.isAgg4
  z4 := Tryd.sizeOf4
  v4 := Tryd.zeroValue4
  t5 := Tryd.underlying5
  a5 := Tryd.isAgg5
  z5 := Tryd.sizeOf5
  v5 := Tryd.zeroValue5
  t9 := Tryd.underlying9
  a9 := Tryd.isAgg9
  z9 := Tryd.sizeOf9
  v9 := Tryd.zeroValue9
  t28 := Tryd.underlying22
  a28 := Tryd.isAgg22
  z28 := Tryd.sizeOf22
  v28 := Tryd.zeroValue22
  t46 := Tryd.underlying82
  a46 := Tryd.isAgg82
  z46 := Tryd.sizeOf82
  v46 := Tryd.zeroValue82
  t51 := Tryd.underlying109
  a51 := Tryd.isAgg109
  z51 := Tryd.sizeOf109
  v51 := Tryd.zeroValue109
  t53 := Tryd.underlying63
  a53 := Tryd.isAgg63
  z53 := Tryd.sizeOf63
  v53 := Tryd.zeroValue63
  t131 := Tryd.underlying133
  a131 := Tryd.isAgg133
  z131 := Tryd.sizeOf133
  v131 := Tryd.zeroValue133
  t182 := Tryd.underlying129
  a182 := Tryd.isAgg129
  z182 := Tryd.sizeOf129
  v182 := Tryd.zeroValue129
  t183 := Tryd.underlying130
  a183 := Tryd.isAgg130
  z183 := Tryd.sizeOf130
  v183 := Tryd.zeroValue130
  t218 := Tryd.underlying135
  a218 := Tryd.isAgg135
  z218 := Tryd.sizeOf135
  v218 := Tryd.zeroValue135
  t222 := Tryd.underlying139
  a222 := Tryd.isAgg139
  z222 := Tryd.sizeOf139
  v222 := Tryd.zeroValue139
  t228 := Tryd.underlying141
  a228 := Tryd.isAgg141
  z228 := Tryd.sizeOf141
  v228 := Tryd.zeroValue141
  t229 := Tryd.underlying89
  a229 := Tryd.isAgg89
  z229 := Tryd.sizeOf89
  v229 := Tryd.zeroValue89 }
open Go.Sort Go.RowKit in
theorem Tryd.slices_Sort_int (blk off cap : Nat) (zs : List Int) (w : World) (hH : Holds (Value.int .i64) w blk off zs.toArray) (hblk : blk < w.heap.size) (hsz : zs.length < 4611686018427387904) :
    Calls Tryd.prog 84 #[.slice (some ⟨blk, off, none⟩) zs.length cap] w fun e w' =>
      e = .returned (.tuple #[]) ∧ ∃ n os, w' = grow (putRow (Value.int .i64) (Sort.ahead w n) blk off (zs.mergeSort fun x y => decide (x ≤ y)).toArray) os := Any.slices_Sort_int Tryd.lays189 blk off cap zs w hH hblk hsz
end Go.Proofs
namespace Go.Proofs.YtekkngkphejfcaaDoor
open Go.RowKit
def insI (a : Int) : List Int → List Int
  | [] => [a]
  | b :: l => if a ≤ b then a :: b :: l else b :: insI a l
def sortI : List Int → List Int
  | [] => []
  | a :: l => insI a (sortI l)
theorem insI_perm (a : Int) : ∀ l : List Int, (insI a l).Perm (a :: l)
  | [] => List.Perm.refl _
  | b :: l => by
    unfold insI
    split
    · exact List.Perm.refl _
    · exact ((insI_perm a l).cons b).trans (List.Perm.swap a b l)
theorem sortI_perm : ∀ l : List Int, (sortI l).Perm l
  | [] => List.Perm.refl _
  | a :: l => (insI_perm a _).trans ((sortI_perm l).cons a)
theorem insI_sorted (a : Int) : ∀ l : List Int, l.Pairwise (· ≤ ·) → (insI a l).Pairwise (· ≤ ·)
  | [], _ => List.pairwise_singleton _ _
  | b :: l, h => by
    have h' := List.pairwise_cons.1 h
    unfold insI
    split
    · rename_i hab
      refine List.pairwise_cons.2 ⟨fun x hx => ?_, h⟩
      rcases List.mem_cons.1 hx with rfl | hx
      · exact hab
      · exact Int.le_trans hab (h'.1 x hx)
    · rename_i hab
      refine List.pairwise_cons.2 ⟨fun x hx => ?_, insI_sorted a l h'.2⟩
      rcases List.mem_cons.1 ((insI_perm a l).mem_iff.1 hx) with rfl | hx
      · omega
      · exact h'.1 x hx
theorem sortI_sorted : ∀ l : List Int, (sortI l).Pairwise (· ≤ ·)
  | [] => List.Pairwise.nil
  | a :: l => insI_sorted a _ (sortI_sorted l)
theorem sortI_eq (l : List Int) : (l.mergeSort fun x y => decide (x ≤ y)) = sortI l := by
  refine List.Perm.eq_of_pairwise (le := (· ≤ ·)) (fun a b _ _ h1 h2 => Int.le_antisymm h1 h2) ?_ (sortI_sorted l) ((List.mergeSort_perm l _).trans (sortI_perm l).symm)
  have := List.pairwise_mergeSort (le := fun x y : Int => decide (x ≤ y)) (fun a b c h1 h2 => by simp at h1 h2 ⊢; omega) (fun a b => by simp; omega) l
  exact this.imp fun h => by simpa using h
theorem sortI_length (l : List Int) : (sortI l).length = l.length := (sortI_perm l).length_eq
theorem heap_put {w : World} {b o : Nat} {l l' : List Int} {cs : Array Value} {t : TypeId} {z : Nat × Nat} (h : w.heap[b]? = some (.cells cs t z)) (hl : l.length = l'.length) (n : Nat) (os : Array Obj) :
    ∃ cs', (Sort.grow (Sort.putRow (Value.int .i64) (Sort.ahead w n) b o l'.toArray) os).heap[b]? = some (.cells cs' t z) ∧ cs'.size = cs.size ∧ ∀ j, j < l.length → o + j < cs.size → cs'[o + j]? = some (.int .i64 (l'.getD j 0)) := by
  have hb : b < w.heap.size := (Array.getElem?_eq_some_iff.1 h).1
  refine ⟨Sort.putCells (Value.int .i64) o l'.toArray cs, ?_, by simp [Sort.putCells], fun j hj hs => ?_⟩
  · simp only [Sort.grow, Sort.putRow, Sort.mapBlock, Sort.ahead]
    rw [Array.getElem?_append_left (by simpa using hb), Array.getElem?_modify, if_pos rfl, h]
    rfl
  · simp only [Sort.putCells, Array.getElem?_mapIdx]
    rw [Array.getElem?_eq_getElem hs]
    simp only [Option.map_some]
    rw [if_pos ⟨by omega, by simp; omega⟩]
    have : o + j - o = j := by omega
    rw [this]
    have hj' : j < l'.length := by omega
    simp [hj', List.getD_eq_getElem?_getD]
theorem upd_put {w : World} {b o : Nat} (hb : b < w.heap.size) (d : Array Int) (n : Nat) (os : Array Obj) : Upd (fun k => k = b) w (Sort.grow (Sort.putRow (Value.int .i64) (Sort.ahead w n) b o d) os) := by
  refine ⟨rfl, rfl, rfl, by simp [Sort.ahead], fun k hk hne => ?_⟩
  simp only [Sort.grow, Sort.putRow, Sort.mapBlock, Sort.ahead]
  rw [Array.getElem?_append_left (by simpa using hk), Array.getElem?_modify, if_neg (fun e => hne e.symm)]
theorem sort_es (l : List Int) {n : Nat} (hn : n = l.length) (hlim : l.length ≤ LIM) : ES Tryd.prog GG 84 [.msl 0 1 0 n] [some (.ints l)] (.tup 0 fun j => ([] : List DV).getD j .any) [some (.ints (sortI l))] false := by
  subst hn
  refine ⟨⟨_, Tryd.func84, by decide, rfl⟩, fun N ρ w args HR hargs => ?_⟩
  obtain ⟨p, hp, hob⟩ := HR.obj 0 _ rfl
  have hob : RowAt w p l.length fun j u => u = .int .i64 (l.getD j 0) := hob
  have h0 := hargs.2 0 (by simp)
  obtain ⟨p', cap, hp', hv, hcap, hlb, hroom⟩ := h0
  have ep : p' = p := Option.some.inj (hp'.symm.trans hp)
  subst ep
  have hsz : args.size = 1 := by have := hargs.1; simpa using this.symm
  have ha : args = #[.slice (some ⟨p'.blk, p'.off, none⟩) l.length cap] := by
    apply Array.ext
    · simp [hsz]
    · intro i h1 h2
      have : i = 0 := by omega
      subst this
      have e : args.getD 0 undef = args[0] := by simp [Array.getD, hsz]
      rw [e] at hv
      rw [hv]; simp
  have hH : Sort.Holds (Value.int .i64) w p'.blk p'.off l.toArray := fun j hj => by
    have hj : j < l.length := by simpa using hj
    obtain ⟨u, c1, c2⟩ := hob.cell hj
    refine ⟨by rw [c1, c2]; simp [hj, List.getD_eq_getElem?_getD], hob.frozen _⟩
  obtain ⟨hfoot, cs, t, hcs, hs1, hs2, _⟩ := hob
  have hb : p'.blk < w.heap.size := (Array.getElem?_eq_some_iff.1 hcs).1
  subst ha
  refine (Tryd.slices_Sort_int p'.blk p'.off cap l w hH hb (by unfold LIM at hlim; omega)).mono ?_
  rintro e w' ⟨rfl, m, os, rfl⟩
  rw [sortI_eq]
  obtain ⟨cs', k1, k2, k3⟩ := heap_put (o := p'.off) hcs (sortI_length l).symm m os
  have hu : Upd p'.foot w (Sort.grow (Sort.putRow (Value.int .i64) (Sort.ahead w m) p'.blk p'.off (sortI l).toArray) os) := by rw [hfoot]; exact upd_put (o := p'.off) hb (sortI l).toArray m os
  show ∃ v, Ending.returned (.tuple #[]) = Ending.returned v ∧ Got Tryd.prog GG N _ ρ w false _ _ v (Sort.grow (Sort.putRow (Value.int .i64) (Sort.ahead w m) p'.blk p'.off (sortI l).toArray) os)
  refine ⟨_, rfl, ⟨⟨ρ, HR.write (o' := .ints (sortI l)) rfl hp hu (fun b hb => ?_) ?_, ⟨#[], rfl, rfl, fun j hj => absurd hj (Nat.not_lt_zero j)⟩, Step.write rfl hp hu, fun _ _ h => h⟩, fun h => by cases h⟩⟩
  · rw [hfoot] at hb
    exact .cells (c := cs') (t := t) (z := (0, 0)) (by rw [show b = p'.blk from hb]; exact k1)
  · refine ⟨hfoot, cs', t, k1, by rw [k2, sortI_length]; exact hs1, by rw [k2]; exact hs2, fun j hj => ?_⟩
    rw [sortI_length] at hj
    exact ⟨_, k3 j hj (by omega), rfl⟩
end Go.Proofs.YtekkngkphejfcaaDoor
namespace Go.Proofs.YtekkngkphejfcaaDoor
open Go.RowKit
set_option maxRecDepth 100000
set_option maxHeartbeats 40000000
def reachM_l0 (n : Nat) (g_ : List (List Int)) (in_ : List Bool) (start : Int) : Option Unit :=
  some ()
def reachM (n : Nat) (g_ : List (List Int)) (in_ : List Bool) (start : Int) : Option Unit := reachM_l0 n g_ in_ start
theorem reachM_ok {n : Nat} (g_ : List (List Int)) (in_ : List Bool) (start : Int) {r : Unit} (h : reachM n g_ in_ start = some r) : ES Tryd.prog GG 80 [.sl 1 g_.length (rowE intsC g_), .bools in_, .i start] [] (.fn 82 3 (L1 [.ref 0 0, .ref 1 0, .ref 2 0])) [some (.cells [.sl 1 g_.length (rowE intsC g_)]), some (.cells [.i start]), some (.cells [.bools in_])] true := by
  refine ot Tryd.func80 fun B N => ?_
  unfold reachM at h
  unfold reachM_l0 at h
  cases h
  exact ee sch0 [6] [0, 2, 1] H0
theorem s_reach_6 : SOk (regF Tryd.f82 6) [] (List.range 8) [] := by unfold SOk; kernel_rfl
def sch_reach : Sch := fun i => match i with
  | 6 => .ord [] (List.range 8) []
  | _ => .no
def hp_reach_0 (g : List (List Int)) (start : Int) (inn o3 : List Bool) (o4 : List Int) : DH := [some (.cells [.sl 1 g.length (rowE intsC g)]), some (.cells [.i start]), some (.cells [.bools inn]), some (.bools o3), some (.ints o4)]
inductive reachPt where
  | l1 (x6 : Nat) (o3 : List Bool) (o4 : List Int)
  | l2 (x6 : Nat) (x33 : List Int) (x34 x35 : Int) (o3 : List Bool) (o4 : List Int)
  | l3 (o3 : List Bool)
def reach_l1 (n : Nat) (self : reachPt → Option (List Int)) (g : List (List Int)) (start : Int) (inn : List Bool) (x6 : Nat) (o3 : List Bool) (o4 : List Int) : Option (List Int) :=
  bif (decide ((x6 : Int) > 0)) then
   if ((0 : Int) ≤ 0 ∧ 0 < (x6 : Int)) ∧ 0 + 0 < o4.length then
    Option.map (fun l => (o4.getD (0 + 0) 0) :: l) (
     if ((0 : Int) ≤ 0 ∧ 0 < (x6 : Int)) ∧ 0 + 0 < o4.length ∧ (0 ≤ (o4.getD (0 + 0) 0) ∧ (o4.getD (0 + 0) 0) < (g.length : Int)) then
      self (.l2 x6 (g.getD ((o4.getD (0 + 0) 0).toNat) []) (((g.getD ((o4.getD (0 + 0) 0).toNat) []).length : Nat) : Int) 0 o3 o4)
     else none)
   else none
  else
   some []
def reach_l2 (n : Nat) (self : reachPt → Option (List Int)) (g : List (List Int)) (start : Int) (inn : List Bool) (x6 : Nat) (x33 : List Int) (x34 x35 : Int) (o3 : List Bool) (o4 : List Int) : Option (List Int) :=
  bif (decide (x35 < x34)) then
   if (0 ≤ x35 ∧ x35 < (x33.length : Int)) ∧ (0 ≤ (x33.getD ((x35).toNat) 0) ∧ (x33.getD ((x35).toNat) 0) < (inn.length : Int)) then
    bif (inn.getD ((x33.getD ((x35).toNat) 0).toNat) false) then
     if (0 ≤ (x33.getD ((x35).toNat) 0) ∧ (x33.getD ((x35).toNat) 0) < (g.length : Int)) ∧ 0 + ((x33.getD ((x35).toNat) 0).toNat) < o3.length then
      bif (!(o3.getD (0 + ((x33.getD ((x35).toNat) 0).toNat)) false)) then
       if ((0 = 0 ∧ 1 = ([x33.getD ((x35).toNat) 0] : List Int).length) ∧ (0 = 0 ∧ x6 = o4.length) ∧ o4.length + ([x33.getD ((x35).toNat) 0] : List Int).length ≤ LIM) ∧ R64 (x35 + 1) then
        self (.l2 (o4.length + ([x33.getD ((x35).toNat) 0] : List Int).length) x33 x34 (x35 + 1) (o3.set (0 + ((x33.getD ((x35).toNat) 0).toNat)) true) (o4 ++ ([x33.getD ((x35).toNat) 0] : List Int)))
       else none
      else
       if R64 (x35 + 1) then
        self (.l2 x6 x33 x34 (x35 + 1) o3 o4)
       else none
     else none
    else
     if R64 (x35 + 1) then
      self (.l2 x6 x33 x34 (x35 + 1) o3 o4)
     else none
   else none
  else
   bif ((x6 - 1) == 0) then
    if (0 : Int) ≤ 1 ∧ (1 : Int) ≤ (x6 : Int) ∧ (x6 : Int) ≤ (x6 : Int) then
     self (.l3 o3)
    else none
   else
    if (0 : Int) ≤ 1 ∧ (1 : Int) ≤ (x6 : Int) ∧ (x6 : Int) ≤ (x6 : Int) then
     if 1 ≤ o4.length then
      self (.l1 (x6 - 1) o3 (o4.drop 1))
     else none
    else none
def reach_l3 (n : Nat) (self : reachPt → Option (List Int)) (g : List (List Int)) (start : Int) (inn : List Bool) (o3 : List Bool) : Option (List Int) :=
  some []
def reach_l0 (n : Nat) (self : reachPt → Option (List Int)) (g : List (List Int)) (start : Int) (inn : List Bool) : Option (List Int) :=
  if (((g.length : Int) : Int) = (g.length : Int) ∧ 0 ≤ (g.length : Int) ∧ ((g.length : Int) : Int) ≤ 1000000000000) ∧ (0 ≤ start ∧ start < (g.length : Int)) ∧ 0 + ((start).toNat) < (List.replicate g.length false).length then
   self (.l1 1 ((List.replicate g.length false).set (0 + ((start).toNat)) true) ([start] : List Int))
  else none
def reach_m (g : List (List Int)) (start : Int) (inn : List Bool) : Nat → reachPt → Option (List Int)
  | 0, _ => none
  | n + 1, .l1 x6 o3 o4 => reach_l1 n (reach_m g start inn n) g start inn x6 o3 o4
  | n + 1, .l2 x6 x33 x34 x35 o3 o4 => reach_l2 n (reach_m g start inn n) g start inn x6 x33 x34 x35 o3 o4
  | n + 1, .l3 o3 => reach_l3 n (reach_m g start inn n) g start inn o3
def reach (n : Nat) (g : List (List Int)) (start : Int) (inn : List Bool) : Option (List Int) := reach_l0 n (reach_m g start inn n) g start inn
/-- What the points stand for. -/
def reach_at (C : ItC Tryd.prog GG) (n : Nat) (g : List (List Int)) (start : Int) (inn : List Bool) (r : List Int) : reachPt → Prop
  | .l1 x6 o3 o4 => ∀ m0 : Nat, n ≤ m0 → ∀ i : Nat, i ≤ C.encs.length → C.encs.drop i = r.map encI → TrG Tryd.prog GG Fence.wide none 3 (C.Y 3 i) (C.Q 3) (toN m0 (atNC (bodyC Tryd.f82) 0 [])) ⟨frm 58 [(0, .yl C.l), (1, .ref 0 0), (3, .ref 2 0), (5, .msl 3 1 0 g.length), (6, .msl 4 1 0 x6)], [some (.cells [.sl 1 g.length (rowE intsC g)]), some (.cells [.i start]), some (.cells [.bools inn]), some (.bools o3), some (.ints o4)]⟩
  | .l2 x6 x33 x34 x35 o3 o4 => ∀ m0 m1 : Nat, n ≤ m0 → n ≤ m1 → ∀ i : Nat, i ≤ C.encs.length → C.encs.drop i = r.map encI → TrG Tryd.prog GG Fence.wide none 3 (C.Y 3 i) (C.Q 3) (toN m1 (atNC (bodyC Tryd.f82) 2 [m0])) ⟨frm 58 [(0, .yl C.l), (1, .ref 0 0), (3, .ref 2 0), (5, .msl 3 1 0 g.length), (6, .msl 4 1 0 x6), (33, .ints x33), (34, .i x34), (35, .i x35)], [some (.cells [.sl 1 g.length (rowE intsC g)]), some (.cells [.i start]), some (.cells [.bools inn]), some (.bools o3), some (.ints o4)]⟩
  | .l3 o3 => ∀ m0 : Nat, n ≤ m0 → ∀ i : Nat, i ≤ C.encs.length → C.encs.drop i = r.map encI → TrG Tryd.prog GG Fence.wide none 3 (C.Y 3 i) (C.Q 3) (toN m0 (atNC (bodyC Tryd.f82) 0 [])) ⟨frm 58 [(0, .yl C.l), (1, .ref 0 0), (3, .ref 2 0), (5, .msl 3 1 0 g.length), (6, .ints ([] : List Int))], [some (.cells [.sl 1 g.length (rowE intsC g)]), some (.cells [.i start]), some (.cells [.bools inn]), some (.bools o3)]⟩
theorem reach_p1 (C : ItC Tryd.prog GG) (n : Nat) (self : reachPt → Option (List Int)) (g : List (List Int)) (start : Int) (inn : List Bool) (hself : ∀ pt r, self pt = some r → reach_at C n g start inn r pt) (x6 : Nat) (o3 : List Bool) (o4 : List Int) (r : List Int) (h : reach_l1 n self g start inn x6 o3 o4 = some r) : reach_at C (n + 1) g start inn r (.l1 x6 o3 o4) := by
  intro m0 hm0
  intro i hi hd
  refine rd hm0 fun m0 hm0 => ?_
  unfold reach_l1 at h
  rcases bifSome h with ⟨c0, h⟩ | ⟨c0, h⟩
  · refine gs (stopAt 5 sch_reach) [0, 1, 2, 3, 4] (H0.b 19 c0) (atGC (bodyC Tryd.f82) 5 [m0]) (frm 58 [(0, .yl C.l), (1, .ref 0 0), (3, .ref 2 0), (5, .msl 3 1 0 g.length), (6, .msl 4 1 0 x6)]) (hp_reach_0 g start inn o3 o4) ?_
    obtain ⟨⟨g0, g1⟩, h⟩ := guardSome h
    obtain ⟨r, h2, rfl⟩ := mapSome h
    clear h
    have h := h2
    clear h2
    obtain ⟨hx, hi, hd⟩ := dropCons hd
    refine TrG.y (ops := regF Tryd.f82 5) HC.x 4 [0, 1, 3, 5, 6, 27] [0, 1, 2, 3, 4] (H0.g g0 |>.g g1) (x := encI (o4.getD (0 + 0) 0)) (frm 58 [(0, .yl C.l), (1, .ref 0 0), (3, .ref 2 0), (5, .msl 3 1 0 g.length), (6, .msl 4 1 0 x6), (27, .bool false)]) (hp_reach_0 g start inn o3 o4) (frm 58 [(0, .yl C.l), (1, .ref 0 0), (3, .ref 2 0), (5, .msl 3 1 0 g.length), (6, .msl 4 1 0 x6), (27, .bool true)]) (hp_reach_0 g start inn o3 o4) (by kernel_rfl) (by kernel_rfl) (by kernel_rfl) hx (by kernel_rfl) ?_ ?_
    · generalize i + 1 = i at hi hd ⊢
      obtain ⟨⟨g2, g3, g4⟩, h⟩ := guardSome h
      exact gg sch_reach [0, 1, 2, 3, 4] (H0.g s_reach_6 |>.g g2 |>.g g3 |>.g g4) (en n (hself _ _ h m0 n hm0 (Nat.le_refl _) i hi hd))
    · exact TrI.e HC.x sch_reach 6 H0 (by kernel_rfl) (.inr rfl)
  · cases h
    exact TrI.e HC.x sch_reach 10 (H0.b 19 c0) (by kernel_rfl) (.inl (by rw [dropNil hi hd]))
theorem reach_p2 (C : ItC Tryd.prog GG) (n : Nat) (self : reachPt → Option (List Int)) (g : List (List Int)) (start : Int) (inn : List Bool) (hself : ∀ pt r, self pt = some r → reach_at C n g start inn r pt) (x6 : Nat) (x33 : List Int) (x34 x35 : Int) (o3 : List Bool) (o4 : List Int) (r : List Int) (h : reach_l2 n self g start inn x6 x33 x34 x35 o3 o4 = some r) : reach_at C (n + 1) g start inn r (.l2 x6 x33 x34 x35 o3 o4) := by
  intro m0 m1 hm0 hm1
  intro i hi hd
  have hm0 := Nat.le_of_succ_le hm0
  refine rd hm1 fun m1 hm1 => ?_
  unfold reach_l2 at h
  rcases bifSome h with ⟨c0, h⟩ | ⟨c0, h⟩
  · obtain ⟨⟨g0, g1⟩, h⟩ := guardSome h
    have p := H0.b 36 c0 |>.g g0 |>.g g1
    rcases bifSome h with ⟨c1, h⟩ | ⟨c1, h⟩
    · obtain ⟨⟨g2, g3⟩, h⟩ := guardSome h
      have p := p.b 42 c1 |>.g g2 |>.g g3
      rcases bifSome h with ⟨c2, h⟩ | ⟨c2, h⟩
      · obtain ⟨⟨g4, g5⟩, h⟩ := guardSome h
        exact gg sch_reach [0, 1, 2, 3, 6] (p.b 48 c2 |>.g g2 |>.g g3 |>.g g4 |>.w 57 g5) (hself _ _ h m0 m1 hm0 hm1 i hi hd)
      · obtain ⟨g4, h⟩ := guardSome h
        exact gg sch_reach [0, 1, 2, 3, 4] (p.b 48 c2 |>.w 57 g4) (hself _ _ h m0 m1 hm0 hm1 i hi hd)
    · obtain ⟨g2, h⟩ := guardSome h
      exact gg sch_reach [0, 1, 2, 3, 4] (p.b 42 c1 |>.w 57 g2) (hself _ _ h m0 m1 hm0 hm1 i hi hd)
  · have p := H0.b 36 c0
    rcases bifSome h with ⟨c1, h⟩ | ⟨c1, h⟩
    · obtain ⟨g0, h⟩ := guardSome h
      exact gg sch_reach [0, 1, 2, 3] (p.g g0 |>.o 21 (DLe.mse_nil (k := 4) (m := 1) (o := 1) (eq_of_beq c1))) (hself _ _ h m0 hm0 i hi hd)
    · obtain ⟨g0, h⟩ := guardSome h
      obtain ⟨g1, h⟩ := guardSome h
      refine gs sch_reach [0, 1, 2, 3, 4] (p.g g0 |>.o 21 (DLe.mse_msl (k := 4) (m := 1) (o := 1) (pos_of_bne c1) rfl)) (toN m0 (atNC (bodyC Tryd.f82) 0 [])) (frm 58 [(0, .yl C.l), (1, .ref 0 0), (3, .ref 2 0), (5, .msl 3 1 0 g.length), (6, .msl 4 1 1 (x6 - 1))]) (hp_reach_0 g start inn o3 o4) ?_
      refine TrK.le (SLe.rootE 4 1 ⟨frm 58 [(0, .yl C.l), (1, .ref 0 0), (3, .ref 2 0), (5, .msl 3 1 0 g.length), (6, .msl 5 1 0 (x6 - 1))], [some (.cells [.sl 1 g.length (rowE intsC g)]), some (.cells [.i start]), some (.cells [.bools inn]), some (.bools o3), none, some (.ints (o4.drop 1))]⟩ [1 ≤ o4.length] (by kernel_rfl) ⟨g1, trivial⟩) (by kernel_rfl) ?_
      refine TrK.le (SLe.compE [0, 1, 2, 3, 5] (by kernel_rfl)) (by kernel_rfl) ?_
      exact hself _ _ h m0 hm0 i hi hd
theorem reach_p3 (C : ItC Tryd.prog GG) (n : Nat) (self : reachPt → Option (List Int)) (g : List (List Int)) (start : Int) (inn : List Bool) (hself : ∀ pt r, self pt = some r → reach_at C n g start inn r pt) (o3 : List Bool) (r : List Int) (h : reach_l3 n self g start inn o3 = some r) : reach_at C (n + 1) g start inn r (.l3 o3) := by
  intro m0 hm0
  intro i hi hd
  refine rd hm0 fun m0 hm0 => ?_
  unfold reach_l3 at h
  cases h
  exact TrI.e HC.x sch_reach 10 H0 (by kernel_rfl) (.inl (by rw [dropNil hi hd]))
theorem reach_all (C : ItC Tryd.prog GG) (g : List (List Int)) (start : Int) (inn : List Bool) : ∀ (n : Nat) (pt : reachPt) (r : List Int), reach_m g start inn n pt = some r → reach_at C n g start inn r pt
  | 0, _, _, h => by cases h
  | n + 1, .l1 x6 o3 o4, r, h => reach_p1 C n (reach_m g start inn n) g start inn (reach_all C g start inn n) x6 o3 o4 r h
  | n + 1, .l2 x6 x33 x34 x35 o3 o4, r, h => reach_p2 C n (reach_m g start inn n) g start inn (reach_all C g start inn n) x6 x33 x34 x35 o3 o4 r h
  | n + 1, .l3 o3, r, h => reach_p3 C n (reach_m g start inn n) g start inn (reach_all C g start inn n) o3 r h
theorem reach_it {n : Nat} (g : List (List Int)) (start : Int) (inn : List Bool) {r : List Int} (h : reach n g start inn = some r) (C : ItC Tryd.prog GG) (hC : C.encs = r.map encI) : TrG Tryd.prog GG Fence.wide none 3 (C.Y 3 0) (C.Q 3) [.code (bodyC Tryd.f82)] ⟨frm 58 [(0, .yl C.l), (1, .ref 0 0), (2, .ref 1 0), (3, .ref 2 0)], [some (.cells [.sl 1 g.length (rowE intsC g)]), some (.cells [.i start]), some (.cells [.bools inn])]⟩ := by
  suffices H : ∀ i : Nat, i ≤ C.encs.length → C.encs.drop i = r.map encI → TrG Tryd.prog GG Fence.wide none 3 (C.Y 3 i) (C.Q 3) [.code (bodyC Tryd.f82)] ⟨frm 58 [(0, .yl C.l), (1, .ref 0 0), (2, .ref 1 0), (3, .ref 2 0)], [some (.cells [.sl 1 g.length (rowE intsC g)]), some (.cells [.i start]), some (.cells [.bools inn])]⟩ from H 0 (Nat.zero_le _) (by rw [List.drop_zero]; exact hC)
  intro i hi hd
  have hself := reach_all C g start inn n
  unfold reach at h
  generalize reach_m g start inn n = self at h hself
  unfold reach_l0 at h
  obtain ⟨⟨g0, g1, g2⟩, h⟩ := guardSome h
  exact gg sch_reach [0, 1, 2, 3, 4] (H0.g g0 |>.g g1 |>.g g2) (en n (hself _ _ h n (Nat.le_refl _) i hi hd))
theorem reachM_iter {n : Nat} {g_ : List (List Int)} {in_ : List Bool} {start : Int} {r : List Int} (h : reach n g_ start in_ = some r) (H : DH) : ES Tryd.prog GG 80 [.sl 1 g_.length (rowE intsC g_), .bools in_, .i start] H (.it H.length) (H ++ [some (.iter (r.map encI))]) true := by
  refine ES.iterN (c := L1 [.ref 0 0, .ref 1 0, .ref 2 0]) (h0 := [some (.cells [.sl 1 g_.length (rowE intsC g_)]), some (.cells [.i start]), some (.cells [.bools in_])]) (fn := Tryd.f82) (reachM_ok (n := 0) g_ in_ start (r := ()) rfl) (by kernel_rfl) Tryd.func82 (by kernel_rfl) (by kernel_rfl) (by kernel_rfl) (fun C hC => ?_) H
  have e : DV.yl C.l :: (List.range 3).map (L1 [.ref 0 0, .ref 1 0, .ref 2 0]) ++ List.replicate (Tryd.f82.ntmps - (3 + 1)) .any = frm 58 [(0, .yl C.l), (1, .ref 0 0), (2, .ref 1 0), (3, .ref 2 0)] := by kernel_rfl
  rw [e]
  exact reach_it g_ start in_ h C hC
end Go.Proofs.YtekkngkphejfcaaDoor
namespace Go.Proofs.YtekkngkphejfcaaDoor
open Go.RowKit
set_option maxRecDepth 100000
set_option maxHeartbeats 40000000
inductive appendSeq_b6T where
  | s0
  | s1 (r6s1_1_0 : Nat) (r6s1_2 : List Int)
def appendSeq_b6_H : appendSeq_b6T → DH
  | .s0 => [none, some (.cells [.nils])]
  | .s1 r6s1_1_0 r6s1_2 => [none, some (.cells [.msl 2 1 0 r6s1_1_0]), some (.ints r6s1_2)]
def appendSeq_b6_e0 (n : Nat) (e6 : Int) : Option appendSeq_b6T :=
  if (0 = 0 ∧ 1 = ([e6] : List Int).length) ∧ 0 < ([e6] : List Int).length ∧ ([e6] : List Int).length ≤ LIM then
   some (.s1 (([e6] : List Int).length) ([e6] : List Int))
  else none
def appendSeq_b6_e1 (n : Nat) (e6 : Int) (r6s1_1_0 : Nat) (r6s1_2 : List Int) : Option appendSeq_b6T :=
  if (0 = 0 ∧ 1 = ([e6] : List Int).length) ∧ (0 = 0 ∧ r6s1_1_0 = r6s1_2.length) ∧ r6s1_2.length + ([e6] : List Int).length ≤ LIM then
   some (.s1 (r6s1_2.length + ([e6] : List Int).length) (r6s1_2 ++ ([e6] : List Int)))
  else none
def appendSeq_b6_l0 (n : Nat) (e6 : Int) : appendSeq_b6T → Option appendSeq_b6T
  | .s0 => appendSeq_b6_e0 n e6
  | .s1 r6s1_1_0 r6s1_2 => appendSeq_b6_e1 n e6 r6s1_1_0 r6s1_2
def appendSeq_b6 (n : Nat) (e6 : Int) (s : appendSeq_b6T) : Option appendSeq_b6T := appendSeq_b6_l0 n e6 s
theorem appendSeq_b6_ok (n : Nat) (l B : Nat) (N : Yard Tryd.prog GG 2) (e6 : Int) (s : appendSeq_b6T) (r : appendSeq_b6T) (h : appendSeq_b6 n e6 s = some r) : TrA Tryd.prog GG (Fence.wide.inRound l) (some B) 2 N (RndQ 2 [] 0 (appendSeq_b6_H r)) (rgA Tryd.f85 6) (rgB Tryd.f85 6) ⟨frm 13 [(2, .ref 1 0), (6, .it 0), (7, .i e6)], appendSeq_b6_H s⟩ := by
  unfold appendSeq_b6 at h
  cases s with
  | s0 =>
    have h : appendSeq_b6_e0 n e6 = some r := h
    unfold appendSeq_b6_e0 at h
    refine ag sch0 [0, 1] H0 (frm 13 [(2, .ref 1 0), (5, .i e6)]) [none, some (.cells [.nils])] ?_
    intro N
    obtain ⟨b6_g0, h⟩ := guardSome h
    cases h
    exact rr sch0 [0, 1, 3] rfl (H0.g b6_g0 |>.t)
  | s1 r6s1_1_0 r6s1_2 =>
    have h : appendSeq_b6_e1 n e6 r6s1_1_0 r6s1_2 = some r := h
    unfold appendSeq_b6_e1 at h
    refine ag sch0 [0, 1, 2] H0 (frm 13 [(2, .ref 1 0), (5, .i e6)]) [none, some (.cells [.msl 2 1 0 r6s1_1_0]), some (.ints r6s1_2)] ?_
    intro N
    obtain ⟨b6_g0, h⟩ := guardSome h
    cases h
    exact rr sch0 [0, 1, 4] rfl (H0.g b6_g0 |>.t)
def appendSeq_l0 (n : Nat) (l : List Int) : Option ((List Int)) :=
  (foldO (appendSeq_b6 n) l (.s0)).bind fun y1 =>
   match y1 with
   | .s0 =>
    none
   | .s1 y1_1_0 y1_1_1 =>
    if y1_1_0 = y1_1_1.length then
     some y1_1_1
    else none
def appendSeq (n : Nat) (l : List Int) : Option ((List Int)) := appendSeq_l0 n l
theorem appendSeq_ok {n : Nat} {l : List Int} {r : (List Int)} (h : appendSeq n l = some r) : ES Tryd.prog GG 85 [.nils, .it 0] [some (.iter ((l).map encI))] (.msl 1 1 0 r.length) [none, some (.ints r)] false := by
  refine ot Tryd.func85 fun B N => ?_
  unfold appendSeq at h
  unfold appendSeq_l0 at h
  obtain ⟨y1, hy1, h⟩ := bindSome h
  refine gs sch0 [0, 1] H0 (atT (bodyC Tryd.f85) 6 []) (frm 13 [(2, .ref 1 0), (6, .it 0)]) [some (.iter ((l).map encI)), some (.cells [.nils])] ?_
  refine r0 0 6 #[7] encI 2 hy1 (appendSeq_b6_ok n) ?_
  cases y1 with
  | s0 =>
    dsimp only at h
    cases h
  | s1 y1_1_0 y1_1_1 =>
    dsimp only at h
    obtain ⟨g0, h⟩ := guardSome h
    obtain rfl := Option.some.inj h
    exact el sch0 [4] [0, 2] H0 [] H0 [.msl 1 1 0 y1_1_0] (DLe.mslN g0)
def collect_l0 (n : Nat) (l : List Int) : Option ((List Int)) :=
  (appendSeq n l).bind fun y1 =>
   some y1
def collect (n : Nat) (l : List Int) : Option ((List Int)) := collect_l0 n l
theorem collect_ok {n : Nat} {l : List Int} {r : (List Int)} (h : collect n l = some r) : ES Tryd.prog GG 83 [.it 0] [some (.iter ((l).map encI))] (.msl 1 1 0 r.length) [none, some (.ints r)] false := by
  refine ot Tryd.func83 fun B N => ?_
  unfold collect at h
  unfold collect_l0 at h
  obtain ⟨y1, hy1, h⟩ := bindSome h
  obtain rfl := Option.some.inj h
  exact el sch0 [2] [0, 1] (H0.c (em (appendSeq_ok hy1) [0] [some (.iter ((l).map encI))])) [] H0 [.msl 1 1 0 y1.length] (DLe.mslN rfl)
def sorted_l0 (n : Nat) (l : List Int) : Option ((List Int)) :=
  (collect n l).bind fun y1 =>
   if y1.length ≤ LIM then
    if y1.length = (sortI y1).length then
     some (sortI y1)
    else none
   else none
def sorted (n : Nat) (l : List Int) : Option ((List Int)) := sorted_l0 n l
theorem sorted_ok {n : Nat} {l : List Int} {r : (List Int)} (h : sorted n l = some r) : ES Tryd.prog GG 81 [.it 0] [some (.iter ((l).map encI))] (.msl 1 1 0 r.length) [none, some (.ints r)] false := by
  refine ot Tryd.func81 fun B N => ?_
  unfold sorted at h
  unfold sorted_l0 at h
  obtain ⟨y1, hy1, h⟩ := bindSome h
  obtain ⟨g0, h⟩ := guardSome h
  obtain ⟨g1, h⟩ := guardSome h
  cases h
  exact el sch0 [2] [0, 1] (H0.c (em (collect_ok hy1) [0] [some (.iter ((l).map encI))]) |>.c (em (sort_es y1 (n := y1.length) (Eq.refl y1.length) g0) [1] [none, some (.ints y1)])) [] H0 [.msl 1 1 0 y1.length] (DLe.mslN g1)
def component_l0 (n : Nat) (g_ : List (List Int)) (in_ : List Bool) (start : Int) : Option ((List Int) × Int) :=
  (gvalid n g_ ([in_] : List (List Bool))).bind fun y1 =>
   bif (y1 != 0) then
    some (([] : List Int), y1)
   else
    bif (decide (start < 0)) then
     some (([] : List Int), 1)
    else
     bif (decide (start ≥ (g_.length : Int))) then
      some (([] : List Int), 1)
     else
      if 0 ≤ start ∧ start < (in_.length : Int) then
       bif (!(in_.getD ((start).toNat) false)) then
        some (([] : List Int), 1)
       else
        (reach n g_ start in_).bind fun y2 =>
         (sorted n y2).bind fun y3 =>
          some (y3, 0)
      else none
def component (n : Nat) (g_ : List (List Int)) (in_ : List Bool) (start : Int) : Option ((List Int) × Int) := component_l0 n g_ in_ start
theorem component_ok {n : Nat} {g_ : List (List Int)} {in_ : List Bool} {start : Int} {r : (List Int) × Int} (h : component n g_ in_ start = some r) : ES Tryd.prog GG 76 [.sl 1 g_.length (rowE intsC g_), .bools in_, .i start] [] (.tup 2 (L1 [.ints r.1, .i r.2])) [] true := by
  refine ot Tryd.func76 fun B N => ?_
  unfold component at h
  unfold component_l0 at h
  obtain ⟨y1, hy1, h⟩ := bindSome h
  have p := H0.a 10 0 1 (rows_build (c := boolsC) (L := ([in_] : List (List Bool))) (vals := [.bools in_]) rfl ⟨⟨_, rfl, ⟨dle_refl, trivial⟩⟩, trivial⟩) |>.z 10 0 |>.g (Eq.refl 1) |>.c (fb (gvalid_ok hy1) [none])
  rcases bifSome h with ⟨c0, h⟩ | ⟨c0, h⟩
  · cases h
    exact el sch0 [6, 7] [] (p.b 13 c0) [] H0 [.nils, .i y1] (DLe.tupL (l := [.nils, .i y1]) (l' := [.ints ([] : List Int), .i y1]) rfl ⟨DLe.ints_nil, (DLe.refl _), trivial⟩)
  · have p := p.b 13 c0
    rcases bifSome h with ⟨c1, h⟩ | ⟨c1, h⟩
    · cases h
      exact el sch0 [6, 7] [] (p.b 16 c1) [] H0 [.nils, .i 1] (DLe.tupL (l := [.nils, .i 1]) (l' := [.ints ([] : List Int), .i 1]) rfl ⟨DLe.ints_nil, (DLe.refl _), trivial⟩)
    · have p := p.b 16 c1
      rcases bifSome h with ⟨c2, h⟩ | ⟨c2, h⟩
      · cases h
        exact el sch0 [6, 7] [] (p.b 21 c2) [] H0 [.nils, .i 1] (DLe.tupL (l := [.nils, .i 1]) (l' := [.ints ([] : List Int), .i 1]) rfl ⟨DLe.ints_nil, (DLe.refl _), trivial⟩)
      · obtain ⟨g0, h⟩ := guardSome h
        have p := p.b 21 c2 |>.g g0
        rcases bifSome h with ⟨c3, h⟩ | ⟨c3, h⟩
        · cases h
          exact el sch0 [6, 7] [] (p.b 28 c3) [] H0 [.nils, .i 1] (DLe.tupL (l := [.nils, .i 1]) (l' := [.ints ([] : List Int), .i 1]) rfl ⟨DLe.ints_nil, (DLe.refl _), trivial⟩)
        · obtain ⟨y2, hy2, h⟩ := bindSome h
          obtain ⟨y3, hy3, h⟩ := bindSome h
          cases h
          exact ez sch0 [6, 7] [2] (p.b 28 c3 |>.c (reachM_iter hy2 [none]) |>.c (em (sorted_ok hy3) [1] [none, some (.iter ((y2).map encI))])) [0] (H0.g (Eq.refl y3.length))
def t_parts_11 : ST := .rd 0 (.rd 1 (.ef 2 (.ef 3 (.fin [] [4, 5]) (.no)) (.no)))
theorem s_parts_11 : TOk (regF Tryd.f79 11) [2] t_parts_11 := by unfold TOk; kernel_rfl
def sch_parts : Sch := fun i => match i with
  | 11 => .tre [2] t_parts_11
  | _ => .no
def hp_parts_0 (g_ : List (List Int)) (o2_0 : Int) (y1 o1 : List Int) : DH := [some (.cells [.msl 3 1 0 g_.length]), some (.cells [.i (o2_0 + 1)]), some (.iter ((y1).map encI)), some (.ints o1)]
def tgt_parts_1 (g_ : List (List Int)) (o1 : List Int) (o2_0 : Int) : St := ⟨(frm 42 [(4, .ref 0 0), (5, .ref 2 0)]), ([some (.cells [.msl 1 1 0 g_.length]), some (.ints o1), some (.cells [.i o2_0])] : DH)⟩
inductive parts_b33T where
  | s0 (r33s0_3 : List Int)
def parts_b33_H (g_ : List (List Int)) (in_ : List Bool) (x13 o2_0 : Int) : parts_b33T → DH
  | .s0 r33s0_3 => [some (.cells [.msl 3 1 0 g_.length]), some (.cells [.i (o2_0 + 1)]), none, some (.ints r33s0_3)]
def parts_b33_e0 (n : Nat) (g_ : List (List Int)) (in_ : List Bool) (x13 o2_0 e33 : Int) (r33s0_3 : List Int) : Option parts_b33T :=
  if (0 ≤ e33 ∧ e33 < (g_.length : Int)) ∧ 0 + ((e33).toNat) < r33s0_3.length then
   some (.s0 (r33s0_3.set (0 + ((e33).toNat)) (o2_0 + 1)))
  else none
def parts_b33_l0 (n : Nat) (g_ : List (List Int)) (in_ : List Bool) (x13 o2_0 e33 : Int) : parts_b33T → Option parts_b33T
  | .s0 r33s0_3 => parts_b33_e0 n g_ in_ x13 o2_0 e33 r33s0_3
def parts_b33 (n : Nat) (g_ : List (List Int)) (in_ : List Bool) (x13 o2_0 e33 : Int) (s : parts_b33T) : Option parts_b33T := parts_b33_l0 n g_ in_ x13 o2_0 e33 s
theorem parts_b33_ok (n : Nat) (g_ : List (List Int)) (in_ : List Bool) (x13 o2_0 : Int) (l B : Nat) (N : Yard Tryd.prog GG 3) (e33 : Int) (s : parts_b33T) (r : parts_b33T) (h : parts_b33 n g_ in_ x13 o2_0 e33 s = some r) : TrA Tryd.prog GG (Fence.wide.inRound l) (some B) 3 N (RndQ 3 [] 0 (parts_b33_H g_ in_ x13 o2_0 r)) (rgA Tryd.f79 33) (rgB Tryd.f79 33) ⟨frm 42 [(0, .sl 1 g_.length (rowE intsC g_)), (1, .bools in_), (4, .ref 0 0), (5, .ref 1 0), (12, .i (g_.length : Int)), (13, .i x13), (33, .it 2), (34, .i e33)], parts_b33_H g_ in_ x13 o2_0 s⟩ := by
  unfold parts_b33 at h
  cases s with
  | s0 r33s0_3 =>
    have h : parts_b33_e0 n g_ in_ x13 o2_0 e33 r33s0_3 = some r := h
    unfold parts_b33_e0 at h
    refine ag sch_parts [0, 1, 2, 3] H0 (frm 42 [(4, .ref 0 0), (5, .ref 1 0), (7, .i e33)]) [some (.cells [.msl 3 1 0 g_.length]), some (.cells [.i (o2_0 + 1)]), none, some (.ints r33s0_3)] ?_
    intro N
    obtain ⟨⟨b33_g0, b33_g1⟩, h⟩ := guardSome h
    cases h
    exact rr sch_parts [0, 1, 2, 3] rfl (H0.g b33_g0 |>.g b33_g1)
inductive partsPt where
  | l1 (x13 : Int) (o1 : List Int) (o2_0 : Int)
def parts_l1 (n : Nat) (self : partsPt → Option ((List Int) × Int)) (g_ : List (List Int)) (in_ : List Bool) (x13 : Int) (o1 : List Int) (o2_0 : Int) : Option ((List Int) × Int) :=
  bif (decide (x13 < (g_.length : Int))) then
   if 0 ≤ x13 ∧ x13 < (in_.length : Int) then
    bif (!(in_.getD ((x13).toNat) false)) then
     if R64 (x13 + 1) then
      self (.l1 (x13 + 1) o1 o2_0)
     else none
    else
     if (0 ≤ x13 ∧ x13 < (g_.length : Int)) ∧ 0 + ((x13).toNat) < o1.length then
      bif (decide ((o1.getD (0 + ((x13).toNat)) 0) > 0)) then
       if R64 (x13 + 1) then
        self (.l1 (x13 + 1) o1 o2_0)
       else none
      else
       if R64 (o2_0 + 1) then
        (reach n g_ x13 in_).bind fun y1 =>
         (foldO (parts_b33 n g_ in_ x13 o2_0) y1 (.s0 o1)).bind fun y2 =>
          match y2 with
          | .s0 y2_0_0 =>
           if R64 (x13 + 1) then
            self (.l1 (x13 + 1) y2_0_0 (o2_0 + 1))
           else none
       else none
     else none
   else none
  else
   if g_.length = o1.length then
    some (o1, o2_0)
   else none
def parts_l0 (n : Nat) (self : partsPt → Option ((List Int) × Int)) (g_ : List (List Int)) (in_ : List Bool) : Option ((List Int) × Int) :=
  if ((g_.length : Int) : Int) = (g_.length : Int) ∧ 0 ≤ (g_.length : Int) ∧ ((g_.length : Int) : Int) ≤ 1000000000000 then
   self (.l1 0 (List.replicate g_.length (0 : Int)) 0)
  else none
def parts_m (g_ : List (List Int)) (in_ : List Bool) : Nat → partsPt → Option ((List Int) × Int)
  | 0, _ => none
  | n + 1, .l1 x13 o1 o2_0 => parts_l1 n (parts_m g_ in_ n) g_ in_ x13 o1 o2_0
def parts (n : Nat) (g_ : List (List Int)) (in_ : List Bool) : Option ((List Int) × Int) := parts_l0 n (parts_m g_ in_ n) g_ in_
/-- What the points stand for. -/
def parts_at (n : Nat) (B : Nat) (N : Yard Tryd.prog GG 0) (g_ : List (List Int)) (in_ : List Bool) (r : (List Int) × Int) : partsPt → Prop
  | .l1 x13 o1 o2_0 => ∀ m0 : Nat, n ≤ m0 → TrK Tryd.prog GG Fence.wide (some B) 0 N (Fin Tryd.prog Tryd.f79 0 (.tup 2 (L1 [.ints r.1, .i r.2])) []) (toN m0 (atNC (bodyC Tryd.f79) 0 [])) ⟨frm 42 [(0, .sl 1 g_.length (rowE intsC g_)), (1, .bools in_), (4, .ref 0 0), (5, .ref 2 0), (12, .i (g_.length : Int)), (13, .i x13)], [some (.cells [.msl 1 1 0 g_.length]), some (.ints o1), some (.cells [.i o2_0])]⟩
theorem parts_all (B : Nat) (N : Yard Tryd.prog GG 0) (g_ : List (List Int)) (in_ : List Bool) : ∀ (n : Nat) (pt : partsPt) (r : (List Int) × Int), parts_m g_ in_ n pt = some r → parts_at n B N g_ in_ r pt := by
  intro n; induction n with
  | zero => intro _ _ h; cases h
  | succ n hself =>
   intro pt r h
   cases pt
   case l1 x13 o1 o2_0 =>
    have h : parts_l1 n (parts_m g_ in_ n) g_ in_ x13 o1 o2_0 = some r := h
    intro m0 hm0
    refine rd hm0 fun m0 hm0 => ?_
    unfold parts_l1 at h
    rcases bifSome h with ⟨c0, h⟩ | ⟨c0, h⟩
    · obtain ⟨g0, h⟩ := guardSome h
      have p := H0.b 14 c0 |>.g g0
      rcases bifSome h with ⟨c1, h⟩ | ⟨c1, h⟩
      · obtain ⟨g1, h⟩ := guardSome h
        exact gg sch_parts [0, 1, 2] (p.b 20 c1 |>.w 39 g1) (hself _ _ h m0 hm0)
      · obtain ⟨⟨g1, g2⟩, h⟩ := guardSome h
        have p := p.b 20 c1 |>.g g1 |>.g g2
        rcases bifSome h with ⟨c2, h⟩ | ⟨c2, h⟩
        · obtain ⟨g3, h⟩ := guardSome h
          exact gg sch_parts [0, 1, 2] (p.b 26 c2 |>.w 39 g3) (hself _ _ h m0 hm0)
        · obtain ⟨g3, h⟩ := guardSome h
          obtain ⟨y1, hy1, h⟩ := bindSome h
          obtain ⟨y2, hy2, h⟩ := bindSome h
          refine gs sch_parts [0, 2, 3, 1] (p.b 26 c2 |>.w 29 g3 |>.t |>.c (reachM_iter hy1 [some (.cells [.msl 1 1 0 g_.length]), some (.ints o1), some (.cells [.i (o2_0 + 1)])])) (atT (bodyC Tryd.f79) 33 [m0]) (frm 42 [(0, .sl 1 g_.length (rowE intsC g_)), (1, .bools in_), (4, .ref 0 0), (5, .ref 1 0), (12, .i (g_.length : Int)), (13, .i x13), (33, .it 2)]) (hp_parts_0 g_ o2_0 y1 o1) ?_
          refine r0 2 33 #[34] encI 3 hy2 (parts_b33_ok n g_ in_ x13 o2_0) ?_
          cases y2 with
          | s0 y2_0_0 =>
            dsimp only at h
            obtain ⟨g4, h⟩ := guardSome h
            exact gg sch_parts [0, 3, 1] (H0.w 39 g4) (hself _ _ h m0 hm0)
    · obtain ⟨g0, h⟩ := guardSome h
      cases h
      exact ez (tg := [([(2, 0)], (tgt_parts_1 g_ o1 o2_0))]) sch_parts [4, 5] [0, 1, 2] (H0.b 14 c0 |>.g s_parts_11 |>.t |>.t |>.g (Eq.refl (tgt_parts_1 g_ o1 o2_0))) [1] (H0.g g0)
theorem parts_ok {n : Nat} {g_ : List (List Int)} {in_ : List Bool} {r : (List Int) × Int} (h : parts n g_ in_ = some r) : ES Tryd.prog GG 79 [.sl 1 g_.length (rowE intsC g_), .bools in_] [] (.tup 2 (L1 [.ints r.1, .i r.2])) [] true := by
  refine ot Tryd.func79 fun B N => ?_
  have hself := parts_all B N g_ in_ n
  unfold parts at h
  unfold parts_l0 at h
  obtain ⟨g0, h⟩ := guardSome h
  exact gg sch_parts [0, 2, 1] (H0.g g0 |>.t) (en n (hself _ _ h n (Nat.le_refl _)))
end Go.Proofs.YtekkngkphejfcaaDoor
namespace Go.Proofs.YtekkngkphejfcaaDoor
open Go.RowKit
set_option maxRecDepth 100000
set_option maxHeartbeats 40000000
def without_l0 (n : Nat) (n_ : Int) (inn : List Bool) : Option ((List Bool)) :=
  (cloneB n inn).bind fun y1 =>
   if (0 ≤ n_ ∧ n_ < (y1.length : Int)) ∧ 0 + ((n_).toNat) < y1.length then
    if y1.length = (y1.set (0 + ((n_).toNat)) false).length then
     some (y1.set (0 + ((n_).toNat)) false)
    else none
   else none
def without (n : Nat) (n_ : Int) (inn : List Bool) : Option ((List Bool)) := without_l0 n n_ inn
theorem without_ok {n : Nat} {n_ : Int} {inn : List Bool} {r : (List Bool)} (h : without n n_ inn = some r) : ES Tryd.prog GG 78 [.i n_, .fp 1 (L1 [.bools inn])] [] (.msl 0 1 0 r.length) [some (.bools r)] true := by
  refine ot Tryd.func78 fun B N => ?_
  unfold without at h
  unfold without_l0 at h
  obtain ⟨y1, hy1, h⟩ := bindSome h
  obtain ⟨⟨g0, g1⟩, h⟩ := guardSome h
  obtain ⟨g2, h⟩ := guardSome h
  cases h
  exact el sch0 [3] [0] (H0.c (ES.snapNew (ds := [.bools inn]) (cloneB_ok hy1) [] (allSnap_plain (by kernel_rfl)) rfl) |>.g g0 |>.g g1) [] H0 [.msl 0 1 0 y1.length] (DLe.mslN g2)
theorem s_splits_16 : SOk (regF Tryd.f68 16) [] (List.range 7) [] := by unfold SOk; kernel_rfl
def sch_splits : Sch := fun i => match i with
  | 16 => .ord [] (List.range 7) []
  | _ => .no
def hp_splits_0 (in_ some_ : List Bool) (at_ : Int) : DH := [some (.cells [.bools in_]), some (.cells [.bools some_]), some (.cells [.i at_]), some (.cells [.bool false]), none]
def hp_splits_1 (in_ some_ : List Bool) (at_ : Int) : DH := [some (.cells [.bools in_]), some (.cells [.bools some_]), some (.cells [.i at_]), some (.cells [.bool false]), none, none]
def hp_splits_2 (in_ some_ : List Bool) (at_ : Int) (y3 : (List Int) × Int) : DH := [some (.cells [.bools in_]), some (.cells [.bools some_]), some (.cells [.i at_]), some (.cells [.bool false]), none, none, some (.cells [.ints y3.1]), some (.cells [.i 0])]
def hp_splits_3 (some_ : List Bool) (at_ : Int) (y3 : (List Int) × Int) (y4 : List Int) : DH := [some (.cells [.bools some_]), some (.cells [.i at_]), some (.cells [.bool false]), some (.cells [.ints y3.1]), some (.cells [.i 0]), some (.iter ((y4).map encI))]
def hp_splits_4 (some_ : List Bool) (at_ : Int) (r48s0_2_0 : Bool) (y3 : (List Int) × Int) (r48s0_4_0 : Int) : DH := [some (.cells [.bools some_]), some (.cells [.i at_]), some (.cells [.bool r48s0_2_0]), some (.cells [.ints y3.1]), some (.cells [.i r48s0_4_0]), none]
inductive splits_b48T where
  | s0 (r48s0_2_0 : Bool) (r48s0_4_0 : Int)
def splits_b48_H (some_ : List Bool) (at_ : Int) (y3 : (List Int) × Int) : splits_b48T → DH
  | .s0 r48s0_2_0 r48s0_4_0 => [some (.cells [.bools some_]), some (.cells [.i at_]), some (.cells [.bool r48s0_2_0]), some (.cells [.ints y3.1]), some (.cells [.i r48s0_4_0]), none]
def splits_b48_e0 (n : Nat) (some_ : List Bool) (at_ : Int) (y3 : (List Int) × Int) (e48 : Int) (r48s0_2_0 : Bool) (r48s0_4_0 : Int) : Option (splits_b48T × Nat) :=
  bif (e48 == at_) then
   some (.s0 r48s0_2_0 r48s0_4_0, 0)
  else
   if 0 ≤ e48 ∧ e48 < (some_.length : Int) then
    bif (!(some_.getD ((e48).toNat) false)) then
     some (.s0 r48s0_2_0 r48s0_4_0, 0)
    else
     bif (r48s0_4_0 == 0) then
      if 0 ≤ e48 ∧ e48 < (y3.1.length : Int) then
       some (.s0 r48s0_2_0 (y3.1.getD ((e48).toNat) 0), 0)
      else none
     else
      if 0 ≤ e48 ∧ e48 < (y3.1.length : Int) then
       bif ((y3.1.getD ((e48).toNat) 0) != r48s0_4_0) then
        some (.s0 true r48s0_4_0, 1)
       else
        some (.s0 r48s0_2_0 r48s0_4_0, 0)
      else none
   else none
def splits_b48_l0 (n : Nat) (some_ : List Bool) (at_ : Int) (y3 : (List Int) × Int) (e48 : Int) : splits_b48T → Option (splits_b48T × Nat)
  | .s0 r48s0_2_0 r48s0_4_0 => splits_b48_e0 n some_ at_ y3 e48 r48s0_2_0 r48s0_4_0
def splits_b48 (n : Nat) (some_ : List Bool) (at_ : Int) (y3 : (List Int) × Int) (e48 : Int) (s : splits_b48T) : Option (splits_b48T × Nat) := splits_b48_l0 n some_ at_ y3 e48 s
theorem splits_b48_ok (n : Nat) (some_ : List Bool) (at_ : Int) (y3 : (List Int) × Int) (l B : Nat) (N : Yard Tryd.prog GG 6) (e48 : Int) (s : splits_b48T) (r : splits_b48T × Nat) (h : splits_b48 n some_ at_ y3 e48 s = some r) : TrA Tryd.prog GG (Fence.wide.inRound l) (some B) 6 N (RndQ 6 [.exit 0] r.2 (splits_b48_H some_ at_ y3 r.1)) (rgA Tryd.f68 48) (rgB Tryd.f68 48) ⟨frm 76 [(6, .ref 0 0), (7, .ref 1 0), (8, .ref 2 0), (11, .ref 3 0), (13, .ref 4 0), (48, .it 5), (49, .i e48)], splits_b48_H some_ at_ y3 s⟩ := by
  unfold splits_b48 at h
  cases s with
  | s0 r48s0_2_0 r48s0_4_0 =>
    have h : splits_b48_e0 n some_ at_ y3 e48 r48s0_2_0 r48s0_4_0 = some r := h
    unfold splits_b48_e0 at h
    refine ag sch_splits [0, 1, 2, 3, 4, 5] H0 (frm 76 [(6, .ref 0 0), (7, .ref 1 0), (8, .ref 2 0), (11, .ref 3 0), (13, .ref 4 0), (14, .i e48)]) (hp_splits_4 some_ at_ r48s0_2_0 y3 r48s0_4_0) ?_
    intro N
    rcases bifSome h with ⟨b48_c0, h⟩ | ⟨b48_c0, h⟩
    · cases h
      exact rr sch_splits [0, 1, 2, 3, 4, 5] rfl (H0.b 53 b48_c0)
    · obtain ⟨b48_g0, h⟩ := guardSome h
      have p := H0.b 53 b48_c0 |>.g b48_g0
      rcases bifSome h with ⟨b48_c1, h⟩ | ⟨b48_c1, h⟩
      · cases h
        exact rr sch_splits [0, 1, 2, 3, 4, 5] rfl (p.b 59 b48_c1)
      · have p := p.b 59 b48_c1
        rcases bifSome h with ⟨b48_c2, h⟩ | ⟨b48_c2, h⟩
        · obtain ⟨b48_g1, h⟩ := guardSome h
          cases h
          exact rr sch_splits [0, 1, 2, 3, 4, 5] rfl (p.b 63 b48_c2 |>.g b48_g1 |>.t)
        · obtain ⟨b48_g1, h⟩ := guardSome h
          have p := p.b 63 b48_c2 |>.g s_splits_16 |>.g b48_g1
          rcases bifSome h with ⟨b48_c3, h⟩ | ⟨b48_c3, h⟩
          · cases h
            exact rr sch_splits [0, 1, 2, 3, 4, 5] rfl (p.b 74 b48_c3 |>.t)
          · cases h
            exact rr sch_splits [0, 1, 2, 3, 4, 5] rfl (p.b 74 b48_c3)
def splits_l0 (n : Nat) (g_ : List (List Int)) (in_ some_ : List Bool) (at_ : Int) : Option (Bool × Int) :=
  (gvalid n g_ ([in_, some_] : List (List Bool))).bind fun y1 =>
   bif (y1 != 0) then
    some (false, y1)
   else
    bif (decide (at_ < 0)) then
     some (false, 1)
    else
     bif (decide (at_ ≥ (g_.length : Int))) then
      some (false, 1)
     else
      if 0 ≤ at_ ∧ at_ < (in_.length : Int) then
       bif (!(in_.getD ((at_).toNat) false)) then
        some (false, 0)
       else
        (without n at_ in_).bind fun y2 =>
         (parts n g_ y2).bind fun y3 =>
          (reach n g_ at_ in_).bind fun y4 =>
           (foldX (splits_b48 n some_ at_ y3) y4 (.s0 false 0)).bind fun y5 =>
            bif y5.2 == 0 then
             match y5.1 with
             | .s0 y5_0_0 y5_0_1 =>
              some (y5_0_0, 0)
            else
             bif y5.2 == 1 then
              match y5.1 with
              | .s0 y5_0_0 y5_0_1 =>
               some (y5_0_0, 0)
             else
              none
      else none
def splits (n : Nat) (g_ : List (List Int)) (in_ some_ : List Bool) (at_ : Int) : Option (Bool × Int) := splits_l0 n g_ in_ some_ at_
theorem splits_ok {n : Nat} {g_ : List (List Int)} {in_ some_ : List Bool} {at_ : Int} {r : Bool × Int} (h : splits n g_ in_ some_ at_ = some r) : ES Tryd.prog GG 68 [.sl 1 g_.length (rowE intsC g_), .bools in_, .bools some_, .i at_] [] (.tup 2 (L1 [.bool r.1, .i r.2])) [] true := by
  refine ot Tryd.func68 fun B N => ?_
  unfold splits at h
  unfold splits_l0 at h
  obtain ⟨y1, hy1, h⟩ := bindSome h
  have p := H0.a 18 4 1 (rows_build (c := boolsC) (L := ([in_, some_] : List (List Bool))) (vals := [.bools in_, .bools some_]) rfl ⟨⟨_, rfl, ⟨dle_refl, trivial⟩⟩, ⟨_, rfl, ⟨dle_refl, trivial⟩⟩, trivial⟩) |>.z 18 4 |>.g (Eq.refl 2) |>.c (fb (gvalid_ok hy1) (hp_splits_0 in_ some_ at_))
  rcases bifSome h with ⟨c0, h⟩ | ⟨c0, h⟩
  · cases h
    exact ee sch_splits [8, 9] [3] (p.b 21 c0 |>.t)
  · have p := p.b 21 c0
    rcases bifSome h with ⟨c1, h⟩ | ⟨c1, h⟩
    · cases h
      exact ee sch_splits [8, 9] [3] (p.b 24 c1 |>.t)
    · have p := p.b 24 c1
      rcases bifSome h with ⟨c2, h⟩ | ⟨c2, h⟩
      · cases h
        exact ee sch_splits [8, 9] [3] (p.b 29 c2 |>.t)
      · obtain ⟨g0, h⟩ := guardSome h
        have p := p.b 29 c2 |>.g g0
        rcases bifSome h with ⟨c3, h⟩ | ⟨c3, h⟩
        · cases h
          exact ee sch_splits [8, 9] [3] (p.b 35 c3 |>.t)
        · obtain ⟨y2, hy2, h⟩ := bindSome h
          obtain ⟨y3, hy3, h⟩ := bindSome h
          obtain ⟨y4, hy4, h⟩ := bindSome h
          obtain ⟨y5, hy5, h⟩ := bindSome h
          refine gs sch_splits [1, 2, 3, 6, 7, 8] (p.b 35 c3 |>.c (ES.snapNew (ds := [.i at_, .ref 0 0]) (without_ok hy2) (hp_splits_0 in_ some_ at_) ⟨Snap.plain (by kernel_rfl), (Snap.refL (l := [.bools in_]) (l0 := [.bools in_]) rfl ⟨Snap.plain (by kernel_rfl), trivial⟩), trivial⟩ rfl) |>.z 41 5 |>.g (Eq.refl y2.length) |>.c (fb (parts_ok hy3) (hp_splits_1 in_ some_ at_)) |>.t |>.t |>.c (reachM_iter hy4 (hp_splits_2 in_ some_ at_ y3))) (atT (bodyC Tryd.f68) 48 []) (frm 76 [(6, .ref 0 0), (7, .ref 1 0), (8, .ref 2 0), (11, .ref 3 0), (13, .ref 4 0), (48, .it 5)]) (hp_splits_3 some_ at_ y3 y4) ?_
          refine rx [.exit 0] 5 48 #[49] encI 6 hy5 (splits_b48_ok n some_ at_ y3) fun e he => ?_
          rcases bifSome h with ⟨y5q, h⟩ | ⟨y5q, h⟩
          · rw [eq_of_beq y5q] at he
            cases he
            revert h
            cases y5.1 with
            | s0 y5_0_0 y5_0_1 =>
              intro h
              dsimp only at h
              cases h
              exact ee sch_splits [8, 9] [2] (H0.t)
          · rcases bifSome h with ⟨y5q, h⟩ | ⟨y5q, h⟩
            · rw [eq_of_beq y5q] at he
              cases he
              refine TrE.exitTo (by kernel_rfl) ?_
              revert h
              cases y5.1 with
              | s0 y5_0_0 y5_0_1 =>
                intro h
                dsimp only at h
                cases h
                exact ee sch_splits [8, 9] [2] (H0.t)
            · cases h
end Go.Proofs.YtekkngkphejfcaaDoor
namespace Go.Proofs.YtekkngkphejfcaaDoor
open Go.RowKit
set_option maxRecDepth 100000
set_option maxHeartbeats 40000000
def t_nodesW_1 : ST := .rd 0 (.rd 1 (.rd 2 (.rd 3 (.rd 4 (.rd 6 (.rd 7 (.rd 8 (.rd 9 (.rd 10 (.ef 5 (.rd 12 (.ef 11 (.rd 13 (.fin [0, 1] [0, 2, 3])) (.no))) (.ef 11 (.ef 5 (.rd 12 (.rd 13 (.fin [1, 0] [0, 2, 3]))) (.no)) (.no))))))))))))
theorem s_nodesW_1 : TOk (regF Tryd.f67 1) [5, 11] t_nodesW_1 := by unfold TOk; kernel_rfl
def t_nodesW_5 : ST := .rd 0 (.rd 1 (.rd 2 (.rd 3 (.rd 4 (.rd 5 (.rd 6 (.rd 7 (.rd 8 (.rd 9 (.rd 10 (.rd 11 (.rd 12 (.rd 13 (.rd 14 (.rd 15 (.rd 16 (.rd 17 (.rd 18 (.rd 19 (.rd 20 (.rd 21 (.rd 22 (.rd 23 (.rd 24 (.rd 25 (.rd 26 (.rd 27 (.rd 28 (.rd 29 (.rd 30 (.rd 31 (.rd 32 (.ef 33 (.rd 34 (.ef 35 (.fin [] [0, 2, 3, 30, 31, 32]) (.no))) (.no))))))))))))))))))))))))))))))))))
theorem s_nodesW_5 : TOk (regF Tryd.f67 5) [33] t_nodesW_5 := by unfold TOk; kernel_rfl
def sch_nodesW : Sch := fun i => match i with
  | 1 => .tre [5, 11] t_nodesW_1
  | 5 => .tre [33] t_nodesW_5
  | _ => .no
def tgt_nodesW_0 (pos : List Int) (c : ConsD) (q : ProbD) (ln : Nat) (lost : List Int) : St := ⟨(frm 120 [(0, .ref 0 0), (2, .msl 2 1 0 pos.length), (3, .msl 3 1 0 pos.length)]), ([some (.cells (consC c ++ probC q ++ [.ints pos, .msl 1 1 0 ln])), some (.ints lost), some (.bools (List.replicate pos.length false)), some (.bools (List.replicate pos.length false))] : DH)⟩
def tgt_nodesW_1 (pos : List Int) (c : ConsD) (x32 : Int) (q : ProbD) (ln : Nat) (lost : List Int) (o2 o3 : List Bool) : St := ⟨(frm 120 [(0, .ref 0 0), (2, .msl 2 1 0 pos.length), (3, .msl 3 1 0 pos.length), (30, .ints c.cells), (31, .i (c.cells.length : Int)), (32, .i x32)]), ([some (.cells (consC c ++ probC q ++ [.ints pos, .msl 1 1 0 ln])), some (.ints lost), some (.bools (o2.set (0 + ((c.cells.getD ((x32).toNat) 0).toNat)) ((bits .and .i64 (pos.getD ((c.cells.getD ((x32).toNat) 0).toNat) 0) c.set) != 0))), some (.bools (o3.set (0 + ((c.cells.getD ((x32).toNat) 0).toNat)) ((bits .andNot .i64 (pos.getD ((c.cells.getD ((x32).toNat) 0).toNat) 0) c.set) == 0)))] : DH)⟩
def hp_nodesW_2 (c : ConsD) (q : ProbD) (pos : List Int) (ln : Nat) (lost : List Int) (o2 o3 : List Bool) : DH := [some (.cells (consC c ++ probC q ++ [.ints pos, .msl 1 1 0 ln])), some (.ints lost), some (.bools o2), some (.bools o3)]
def hp_nodesW_3 (c : ConsD) (q : ProbD) (pos : List Int) (ln : Nat) (lost : List Int) (o3 : List Bool) (y2 : (List Bool)) : DH := [some (.cells (consC c ++ probC q ++ [.ints pos, .msl 1 1 0 ln])), some (.ints lost), none, some (.bools o3), some (.bools y2)]
inductive nodesWPt where
  | l1 (x32 : Int) (o2 o3 : List Bool)
  | l2 (x2t2 : List Bool) (x8 : Nat) (x90 : List Int) (x91 x92 : Int) (o2 o3 : List Bool)
  | l3 (x2t2 : List Bool) (x8 : Nat) (x101 x102 : Int) (o1 : List Int) (o2 o3 : List Bool)
def nodesW_l1 (n : Nat) (self : nodesWPt → Option ((List Bool) × (List Bool) × Bool × (List Int))) (c : ConsD) (q : ProbD) (pos : List Int) (ln : Nat) (lost : List Int) (x32 : Int) (o2 o3 : List Bool) : Option ((List Bool) × (List Bool) × Bool × (List Int)) :=
  bif (decide (x32 < (c.cells.length : Int))) then
   if (0 ≤ x32 ∧ x32 < (c.cells.length : Int)) ∧ (0 ≤ (c.cells.getD ((x32).toNat) 0) ∧ (c.cells.getD ((x32).toNat) 0) < (pos.length : Int)) ∧ 0 + ((c.cells.getD ((x32).toNat) 0).toNat) < o2.length ∧ 0 + ((c.cells.getD ((x32).toNat) 0).toNat) < o3.length ∧ R64 (x32 + 1) then
    self (.l1 (x32 + 1) (o2.set (0 + ((c.cells.getD ((x32).toNat) 0).toNat)) ((bits .and .i64 (pos.getD ((c.cells.getD ((x32).toNat) 0).toNat) 0) c.set) != 0)) (o3.set (0 + ((c.cells.getD ((x32).toNat) 0).toNat)) ((bits .andNot .i64 (pos.getD ((c.cells.getD ((x32).toNat) 0).toNat) 0) c.set) == 0)))
   else none
  else
   if pos.length = o3.length then
    (indexB n o3 true).bind fun y1 =>
     bif (decide (y1 < 0)) then
      if pos.length = o2.length then
       some (o2, o3, false, lost)
      else none
     else
      if pos.length = o2.length then
       (cloneB n o2).bind fun y2 =>
        (component n q.nbrs o2 y1).bind fun y3 =>
         self (.l2 o2 y2.length y3.1 (y3.1.length : Int) 0 o3 y2)
      else none
   else none
def nodesW_l2 (n : Nat) (self : nodesWPt → Option ((List Bool) × (List Bool) × Bool × (List Int))) (c : ConsD) (q : ProbD) (pos : List Int) (ln : Nat) (lost : List Int) (x2t2 : List Bool) (x8 : Nat) (x90 : List Int) (x91 x92 : Int) (o2 o3 : List Bool) : Option ((List Bool) × (List Bool) × Bool × (List Int)) :=
  bif (decide (x92 < x91)) then
   if (0 ≤ x92 ∧ x92 < (x90.length : Int)) ∧ (0 ≤ (x90.getD ((x92).toNat) 0) ∧ (x90.getD ((x92).toNat) 0) < (x8 : Int)) ∧ 0 + ((x90.getD ((x92).toNat) 0).toNat) < o3.length ∧ R64 (x92 + 1) then
    self (.l2 x2t2 x8 x90 x91 (x92 + 1) o2 (o3.set (0 + ((x90.getD ((x92).toNat) 0).toNat)) false))
   else none
  else
   self (.l3 x2t2 x8 (x8 : Int) 0 lost o2 o3)
def nodesW_l3 (n : Nat) (self : nodesWPt → Option ((List Bool) × (List Bool) × Bool × (List Int))) (c : ConsD) (q : ProbD) (pos : List Int) (ln : Nat) (lost : List Int) (x2t2 : List Bool) (x8 : Nat) (x101 x102 : Int) (o1 : List Int) (o2 o3 : List Bool) : Option ((List Bool) × (List Bool) × Bool × (List Int)) :=
  bif (decide (x102 < x101)) then
   if (0 ≤ x102 ∧ x102 < (x8 : Int)) ∧ 0 + ((x102).toNat) < o3.length then
    bif (o3.getD (0 + ((x102).toNat)) false) then
     (loseW n x102 c.set c q pos ln o1).bind fun y1 =>
      if R64 (x102 + 1) then
       self (.l3 x2t2 x8 x101 (x102 + 1) y1 o2 o3)
      else none
    else
     if R64 (x102 + 1) then
      self (.l3 x2t2 x8 x101 (x102 + 1) o1 o2 o3)
     else none
   else none
  else
   if pos.length = o2.length then
    some (x2t2, o2, true, o1)
   else none
def nodesW_l0 (n : Nat) (self : nodesWPt → Option ((List Bool) × (List Bool) × Bool × (List Int))) (c : ConsD) (q : ProbD) (pos : List Int) (ln : Nat) (lost : List Int) : Option ((List Bool) × (List Bool) × Bool × (List Int)) :=
  if ((pos.length : Int) : Int) = (pos.length : Int) ∧ 0 ≤ (pos.length : Int) ∧ ((pos.length : Int) : Int) ≤ 1000000000000 then
   self (.l1 0 (List.replicate pos.length false) (List.replicate pos.length false))
  else none
def nodesW_m (c : ConsD) (q : ProbD) (pos : List Int) (ln : Nat) (lost : List Int) : Nat → nodesWPt → Option ((List Bool) × (List Bool) × Bool × (List Int))
  | 0, _ => none
  | n + 1, .l1 x32 o2 o3 => nodesW_l1 n (nodesW_m c q pos ln lost n) c q pos ln lost x32 o2 o3
  | n + 1, .l2 x2t2 x8 x90 x91 x92 o2 o3 => nodesW_l2 n (nodesW_m c q pos ln lost n) c q pos ln lost x2t2 x8 x90 x91 x92 o2 o3
  | n + 1, .l3 x2t2 x8 x101 x102 o1 o2 o3 => nodesW_l3 n (nodesW_m c q pos ln lost n) c q pos ln lost x2t2 x8 x101 x102 o1 o2 o3
def nodesW (n : Nat) (c : ConsD) (q : ProbD) (pos : List Int) (ln : Nat) (lost : List Int) : Option ((List Bool) × (List Bool) × Bool × (List Int)) := nodesW_l0 n (nodesW_m c q pos ln lost n) c q pos ln lost
/-- What the points stand for. -/
def nodesW_at (n : Nat) (B : Nat) (N : Yard Tryd.prog GG 2) (c : ConsD) (q : ProbD) (pos : List Int) (ln : Nat) (lost : List Int) (r : (List Bool) × (List Bool) × Bool × (List Int)) : nodesWPt → Prop
  | .l1 x32 o2 o3 => ∀ m0 : Nat, n ≤ m0 → TrK Tryd.prog GG Fence.wide (some B) 2 N (Fin Tryd.prog Tryd.f67 2 (.tup 3 (L1 [.bools r.1, .bools r.2.1, .bool r.2.2.1])) [some (.cells (consC c ++ probC q ++ [.ints pos, .msl 1 1 0 ln])), some (.ints r.2.2.2)]) (toN m0 (atNC (bodyC Tryd.f67) 0 [])) ⟨frm 120 [(0, .ref 0 0), (2, .msl 2 1 0 pos.length), (3, .msl 3 1 0 pos.length), (30, .ints c.cells), (31, .i (c.cells.length : Int)), (32, .i x32)], [some (.cells (consC c ++ probC q ++ [.ints pos, .msl 1 1 0 ln])), some (.ints lost), some (.bools o2), some (.bools o3)]⟩
  | .l2 x2t2 x8 x90 x91 x92 o2 o3 => ∀ m0 : Nat, n ≤ m0 → TrK Tryd.prog GG Fence.wide (some B) 2 N (Fin Tryd.prog Tryd.f67 2 (.tup 3 (L1 [.bools r.1, .bools r.2.1, .bool r.2.2.1])) [some (.cells (consC c ++ probC q ++ [.ints pos, .msl 1 1 0 ln])), some (.ints r.2.2.2)]) (toN m0 (atNC (bodyC Tryd.f67) 2 [])) ⟨frm 120 [(0, .ref 0 0), (2, .bools x2t2), (3, .msl 2 1 0 pos.length), (8, .msl 3 1 0 x8), (90, .ints x90), (91, .i x91), (92, .i x92)], [some (.cells (consC c ++ probC q ++ [.ints pos, .msl 1 1 0 ln])), some (.ints lost), some (.bools o2), some (.bools o3)]⟩
  | .l3 x2t2 x8 x101 x102 o1 o2 o3 => ∀ m0 : Nat, n ≤ m0 → TrK Tryd.prog GG Fence.wide (some B) 2 N (Fin Tryd.prog Tryd.f67 2 (.tup 3 (L1 [.bools r.1, .bools r.2.1, .bool r.2.2.1])) [some (.cells (consC c ++ probC q ++ [.ints pos, .msl 1 1 0 ln])), some (.ints r.2.2.2)]) (toN m0 (atNC (bodyC Tryd.f67) 4 [])) ⟨frm 120 [(0, .ref 0 0), (2, .bools x2t2), (3, .msl 2 1 0 pos.length), (8, .msl 3 1 0 x8), (101, .i x101), (102, .i x102)], [some (.cells (consC c ++ probC q ++ [.ints pos, .msl 1 1 0 ln])), some (.ints o1), some (.bools o2), some (.bools o3)]⟩
theorem nodesW_all (B : Nat) (N : Yard Tryd.prog GG 2) (c : ConsD) (q : ProbD) (pos : List Int) (ln : Nat) (lost : List Int) : ∀ (n : Nat) (pt : nodesWPt) (r : (List Bool) × (List Bool) × Bool × (List Int)), nodesW_m c q pos ln lost n pt = some r → nodesW_at n B N c q pos ln lost r pt := by
  intro n; induction n with
  | zero => intro _ _ h; cases h
  | succ n hself =>
   intro pt r h
   cases pt
   case l1 x32 o2 o3 =>
    have h : nodesW_l1 n (nodesW_m c q pos ln lost n) c q pos ln lost x32 o2 o3 = some r := h
    intro m0 hm0
    refine rd hm0 fun m0 hm0 => ?_
    unfold nodesW_l1 at h
    rcases bifSome h with ⟨c0, h⟩ | ⟨c0, h⟩
    · obtain ⟨⟨g0, g1, g2, g3, g4⟩, h⟩ := guardSome h
      exact gg (tg := [([(33, 2)], (tgt_nodesW_1 pos c x32 q ln lost o2 o3))]) sch_nodesW [0, 1, 2, 3] (H0.b 33 c0 |>.g g0 |>.g s_nodesW_5 |>.g g1 |>.g g1 |>.g g1 |>.g g2 |>.g g1 |>.g g3 |>.g (Eq.refl (tgt_nodesW_1 pos c x32 q ln lost o2 o3)) |>.w 70 g4) (hself _ _ h m0 hm0)
    · obtain ⟨g0, h⟩ := guardSome h
      obtain ⟨y1, hy1, h⟩ := bindSome h
      have p := H0.b 33 c0 |>.c (sb [.msl 3 1 0 pos.length, .bool true] (indexB_ok hy1) (hp_nodesW_2 c q pos ln lost o2 o3) ⟨Snap.bools rfl g0, Snap.plain (by kernel_rfl), trivial⟩)
      rcases bifSome h with ⟨c1, h⟩ | ⟨c1, h⟩
      · obtain ⟨g1, h⟩ := guardSome h
        cases h
        exact ez sch_nodesW [2, 3, 4] [0, 1, 2, 3] (p.b 74 c1) [2, 3] (H0.g g1 |>.g g0)
      · obtain ⟨g1, h⟩ := guardSome h
        obtain ⟨y2, hy2, h⟩ := bindSome h
        refine gz (stopAt 11 sch_nodesW) [0, 1, 2, 3, 4] (p.b 74 c1 |>.c (ES.snapNew (ds := [.msl 2 1 0 pos.length]) (cloneB_ok hy2) (hp_nodesW_2 c q pos ln lost o2 o3) ⟨Snap.bools rfl g1, trivial⟩ rfl)) [2] (H0.g g1) (atGC (bodyC Tryd.f67) 11 []) (frm 120 [(0, .ref 0 0), (2, .bools o2), (3, .msl 3 1 0 pos.length), (7, .i y1), (8, .msl 4 1 0 y2.length)]) (hp_nodesW_3 c q pos ln lost o3 y2) ?_
        obtain ⟨y3, hy3, h⟩ := bindSome h
        exact gg sch_nodesW [0, 1, 3, 4] (H0.c (fb (component_ok hy3) (hp_nodesW_3 c q pos ln lost o3 y2))) (en n (hself _ _ h n (Nat.le_refl _)))
   case l2 x2t2 x8 x90 x91 x92 o2 o3 =>
    have h : nodesW_l2 n (nodesW_m c q pos ln lost n) c q pos ln lost x2t2 x8 x90 x91 x92 o2 o3 = some r := h
    intro m0 hm0
    refine rd hm0 fun m0 hm0 => ?_
    unfold nodesW_l2 at h
    rcases bifSome h with ⟨c0, h⟩ | ⟨c0, h⟩
    · obtain ⟨⟨g0, g1, g2, g3⟩, h⟩ := guardSome h
      exact gg sch_nodesW [0, 1, 2, 3] (H0.b 93 c0 |>.g g0 |>.g g1 |>.g g2 |>.w 99 g3) (hself _ _ h m0 hm0)
    · exact gg sch_nodesW [0, 1, 2, 3] (H0.b 93 c0) (en n (hself _ _ h n (Nat.le_refl _)))
   case l3 x2t2 x8 x101 x102 o1 o2 o3 =>
    have h : nodesW_l3 n (nodesW_m c q pos ln lost n) c q pos ln lost x2t2 x8 x101 x102 o1 o2 o3 = some r := h
    intro m0 hm0
    refine rd hm0 fun m0 hm0 => ?_
    unfold nodesW_l3 at h
    rcases bifSome h with ⟨c0, h⟩ | ⟨c0, h⟩
    · obtain ⟨⟨g0, g1⟩, h⟩ := guardSome h
      have p := H0.b 103 c0 |>.g g0 |>.g g1
      rcases bifSome h with ⟨c1, h⟩ | ⟨c1, h⟩
      · obtain ⟨y1, hy1, h⟩ := bindSome h
        obtain ⟨g2, h⟩ := guardSome h
        exact gg sch_nodesW [0, 1, 2, 3] (p.b 108 c1 |>.c (em (loseW_ok hy1) [0, 1] [some (.cells (consC c ++ probC q ++ [.ints pos, .msl 1 1 0 ln])), some (.ints o1), some (.bools o2), some (.bools o3)]) |>.w 117 g2) (hself _ _ h m0 hm0)
      · obtain ⟨g2, h⟩ := guardSome h
        exact gg sch_nodesW [0, 1, 2, 3] (p.b 108 c1 |>.w 117 g2) (hself _ _ h m0 hm0)
    · obtain ⟨g0, h⟩ := guardSome h
      cases h
      exact ez sch_nodesW [2, 3, 4] [0, 1, 2] (H0.b 103 c0) [2] (H0.g g0)
theorem nodesW_ok {n : Nat} {c : ConsD} {q : ProbD} {pos : List Int} {ln : Nat} {lost : List Int} {r : (List Bool) × (List Bool) × Bool × (List Int)} (h : nodesW n c q pos ln lost = some r) : ES Tryd.prog GG 67 [.ref 0 0] [some (.cells (consC c ++ probC q ++ [.ints pos, .msl 1 1 0 ln])), some (.ints lost)] (.tup 3 (L1 [.bools r.1, .bools r.2.1, .bool r.2.2.1])) [some (.cells (consC c ++ probC q ++ [.ints pos, .msl 1 1 0 ln])), some (.ints r.2.2.2)] false := by
  refine ot Tryd.func67 fun B N => ?_
  have hself := nodesW_all B N c q pos ln lost n
  unfold nodesW at h
  unfold nodesW_l0 at h
  obtain ⟨g0, h⟩ := guardSome h
  exact gg (tg := [([], (tgt_nodesW_0 pos c q ln lost))]) sch_nodesW [0, 1, 2, 3] (H0.g s_nodesW_1 |>.g g0 |>.g g0 |>.g (Eq.refl (tgt_nodesW_0 pos c q ln lost)) |>.g g0 |>.g g0 |>.g (Eq.refl (tgt_nodesW_0 pos c q ln lost))) (en n (hself _ _ h n (Nat.le_refl _)))
inductive connWPt where
  | l1 (x3 x4 : List Bool) (x5 : Bool) (x16 x17 : Int) (o1 : List Int)
def connW_l1 (n : Nat) (self : connWPt → Option (Bool × (List Int))) (c : ConsD) (q : ProbD) (pos : List Int) (ln : Nat) (lost : List Int) (x3 x4 : List Bool) (x5 : Bool) (x16 x17 : Int) (o1 : List Int) : Option (Bool × (List Int)) :=
  bif (decide (x17 < x16)) then
   bif (!x5) then
    if R64 (x17 + 1) then
     self (.l1 x3 x4 x5 x16 (x17 + 1) o1)
    else none
   else
    if 0 ≤ x17 ∧ x17 < (x3.length : Int) then
     bif (!(x3.getD ((x17).toNat) false)) then
      if R64 (x17 + 1) then
       self (.l1 x3 x4 x5 x16 (x17 + 1) o1)
      else none
     else
      if 0 ≤ x17 ∧ x17 < (x4.length : Int) then
       bif (x4.getD ((x17).toNat) false) then
        if R64 (x17 + 1) then
         self (.l1 x3 x4 x5 x16 (x17 + 1) o1)
        else none
       else
        (splits n q.nbrs x3 x4 x17).bind fun y1 =>
         bif y1.1 then
          (onlyW n x17 c q pos ln o1).bind fun y2 =>
           if R64 (x17 + 1) then
            self (.l1 x3 x4 x5 x16 (x17 + 1) y2)
           else none
         else
          if R64 (x17 + 1) then
           self (.l1 x3 x4 x5 x16 (x17 + 1) o1)
          else none
      else none
    else none
  else
   some (true, o1)
def connW_l0 (n : Nat) (self : connWPt → Option (Bool × (List Int))) (c : ConsD) (q : ProbD) (pos : List Int) (ln : Nat) (lost : List Int) : Option (Bool × (List Int)) :=
  (nodesW n c q pos ln lost).bind fun y1 =>
   self (.l1 y1.1 y1.2.1 y1.2.2.1 (y1.1.length : Int) 0 y1.2.2.2)
def connW_m (c : ConsD) (q : ProbD) (pos : List Int) (ln : Nat) (lost : List Int) : Nat → connWPt → Option (Bool × (List Int))
  | 0, _ => none
  | n + 1, .l1 x3 x4 x5 x16 x17 o1 => connW_l1 n (connW_m c q pos ln lost n) c q pos ln lost x3 x4 x5 x16 x17 o1
def connW (n : Nat) (c : ConsD) (q : ProbD) (pos : List Int) (ln : Nat) (lost : List Int) : Option (Bool × (List Int)) := connW_l0 n (connW_m c q pos ln lost n) c q pos ln lost
/-- What the points stand for. -/
def connW_at (n : Nat) (B : Nat) (N : Yard Tryd.prog GG 2) (c : ConsD) (q : ProbD) (pos : List Int) (ln : Nat) (lost : List Int) (r : Bool × (List Int)) : connWPt → Prop
  | .l1 x3 x4 x5 x16 x17 o1 => ∀ m0 : Nat, n ≤ m0 → TrK Tryd.prog GG Fence.wide (some B) 2 N (Fin Tryd.prog Tryd.f47 2 (.bool r.1) [some (.cells (consC c ++ probC q ++ [.ints pos, .msl 1 1 0 ln])), some (.ints r.2)]) (toN m0 (atNC (bodyC Tryd.f47) 0 [])) ⟨frm 52 [(0, .ref 0 0), (3, .bools x3), (4, .bools x4), (5, .bool x5), (16, .i x16), (17, .i x17)], [some (.cells (consC c ++ probC q ++ [.ints pos, .msl 1 1 0 ln])), some (.ints o1)]⟩
theorem connW_all (B : Nat) (N : Yard Tryd.prog GG 2) (c : ConsD) (q : ProbD) (pos : List Int) (ln : Nat) (lost : List Int) : ∀ (n : Nat) (pt : connWPt) (r : Bool × (List Int)), connW_m c q pos ln lost n pt = some r → connW_at n B N c q pos ln lost r pt := by
  intro n; induction n with
  | zero => intro _ _ h; cases h
  | succ n hself =>
   intro pt r h
   cases pt
   case l1 x3 x4 x5 x16 x17 o1 =>
    have h : connW_l1 n (connW_m c q pos ln lost n) c q pos ln lost x3 x4 x5 x16 x17 o1 = some r := h
    intro m0 hm0
    refine rd hm0 fun m0 hm0 => ?_
    unfold connW_l1 at h
    rcases bifSome h with ⟨c0, h⟩ | ⟨c0, h⟩
    · have p := H0.b 18 c0
      rcases bifSome h with ⟨c1, h⟩ | ⟨c1, h⟩
      · obtain ⟨g0, h⟩ := guardSome h
        exact gg sch0 [0, 1] (p.b 21 c1 |>.w 51 g0) (hself _ _ h m0 hm0)
      · obtain ⟨g0, h⟩ := guardSome h
        have p := p.b 21 c1 |>.g g0
        rcases bifSome h with ⟨c2, h⟩ | ⟨c2, h⟩
        · obtain ⟨g1, h⟩ := guardSome h
          exact gg sch0 [0, 1] (p.b 27 c2 |>.w 51 g1) (hself _ _ h m0 hm0)
        · obtain ⟨g1, h⟩ := guardSome h
          have p := p.b 27 c2 |>.g g1
          rcases bifSome h with ⟨c3, h⟩ | ⟨c3, h⟩
          · obtain ⟨g2, h⟩ := guardSome h
            exact gg sch0 [0, 1] (p.b 33 c3 |>.w 51 g2) (hself _ _ h m0 hm0)
          · obtain ⟨y1, hy1, h⟩ := bindSome h
            have p := p.b 33 c3 |>.c (fb (splits_ok hy1) [some (.cells (consC c ++ probC q ++ [.ints pos, .msl 1 1 0 ln])), some (.ints o1)])
            rcases bifSome h with ⟨c4, h⟩ | ⟨c4, h⟩
            · obtain ⟨y2, hy2, h⟩ := bindSome h
              obtain ⟨g2, h⟩ := guardSome h
              exact gg sch0 [0, 1] (p.b 45 c4 |>.c (em (onlyW_ok hy2) [0, 1] [some (.cells (consC c ++ probC q ++ [.ints pos, .msl 1 1 0 ln])), some (.ints o1)]) |>.w 51 g2) (hself _ _ h m0 hm0)
            · obtain ⟨g2, h⟩ := guardSome h
              exact gg sch0 [0, 1] (p.b 45 c4 |>.w 51 g2) (hself _ _ h m0 hm0)
    · cases h
      exact ee sch0 [2] [0, 1] (H0.b 18 c0)
theorem connW_ok {n : Nat} {c : ConsD} {q : ProbD} {pos : List Int} {ln : Nat} {lost : List Int} {r : Bool × (List Int)} (h : connW n c q pos ln lost = some r) : ES Tryd.prog GG 47 [.ref 0 0] [some (.cells (consC c ++ probC q ++ [.ints pos, .msl 1 1 0 ln])), some (.ints lost)] (.bool r.1) [some (.cells (consC c ++ probC q ++ [.ints pos, .msl 1 1 0 ln])), some (.ints r.2)] false := by
  refine ot Tryd.func47 fun B N => ?_
  have hself := connW_all B N c q pos ln lost n
  unfold connW at h
  unfold connW_l0 at h
  obtain ⟨y1, hy1, h⟩ := bindSome h
  exact gg sch0 [0, 1] (H0.c (em (nodesW_ok hy1) [0, 1] [some (.cells (consC c ++ probC q ++ [.ints pos, .msl 1 1 0 ln])), some (.ints lost)])) (en n (hself _ _ h n (Nat.le_refl _)))
inductive loopWPt where
  | l1 (x3 x4 : List Bool) (x20 x21 : Int) (o1 : List Int)
  | l2 (x3 x4 : List Bool) (x8 x20 x21 : Int) (x36 : List Int) (x37 x38 : Int) (o1 : List Int)
  | l3 (x3 x4 : List Bool) (x7 : Nat) (x8 x20 x21 : Int) (x36 : List Int) (x37 x38 : Int) (o1 o2 : List Int)
  | l4 (x3 x4 : List Bool) (x7 : Nat) (x8 x20 x21 : Int) (x64 : Nat) (x65 x66 : Int) (o1 o2 : List Int)
def loopW_l1 (n : Nat) (self : loopWPt → Option (Bool × (List Int))) (c : ConsD) (q : ProbD) (pos : List Int) (ln : Nat) (lost : List Int) (x3 x4 : List Bool) (x20 x21 : Int) (o1 : List Int) : Option (Bool × (List Int)) :=
  bif (decide (x21 < x20)) then
   if 0 ≤ x21 ∧ x21 < (x4.length : Int) then
    bif (!(x4.getD ((x21).toNat) false)) then
     if R64 (x21 + 1) then
      self (.l1 x3 x4 x20 (x21 + 1) o1)
     else none
    else
     if 0 ≤ x21 ∧ x21 < (q.nbrs.length : Int) then
      self (.l2 x3 x4 0 x20 x21 (q.nbrs.getD ((x21).toNat) []) (((q.nbrs.getD ((x21).toNat) []).length : Nat) : Int) 0 o1)
     else none
   else none
  else
   some (true, o1)
def loopW_l2 (n : Nat) (self : loopWPt → Option (Bool × (List Int))) (c : ConsD) (q : ProbD) (pos : List Int) (ln : Nat) (lost : List Int) (x3 x4 : List Bool) (x8 x20 x21 : Int) (x36 : List Int) (x37 x38 : Int) (o1 : List Int) : Option (Bool × (List Int)) :=
  bif (decide (x38 < x37)) then
   if (0 ≤ x38 ∧ x38 < (x36.length : Int)) ∧ (0 ≤ (x36.getD ((x38).toNat) 0) ∧ (x36.getD ((x38).toNat) 0) < (x3.length : Int)) then
    bif (x3.getD ((x36.getD ((x38).toNat) 0).toNat) false) then
     if ((0 = 0 ∧ 1 = ([x36.getD ((x38).toNat) 0] : List Int).length) ∧ 0 < ([x36.getD ((x38).toNat) 0] : List Int).length ∧ ([x36.getD ((x38).toNat) 0] : List Int).length ≤ LIM) ∧ (0 ≤ (x36.getD ((x38).toNat) 0) ∧ (x36.getD ((x38).toNat) 0) < (x4.length : Int)) then
      bif (x4.getD ((x36.getD ((x38).toNat) 0).toNat) false) then
       if R64 (x8 + 1) ∧ R64 (x38 + 1) then
        self (.l3 x3 x4 (([x36.getD ((x38).toNat) 0] : List Int).length) (x8 + 1) x20 x21 x36 x37 (x38 + 1) o1 ([x36.getD ((x38).toNat) 0] : List Int))
       else none
      else
       if R64 (x38 + 1) then
        self (.l3 x3 x4 (([x36.getD ((x38).toNat) 0] : List Int).length) x8 x20 x21 x36 x37 (x38 + 1) o1 ([x36.getD ((x38).toNat) 0] : List Int))
       else none
     else none
    else
     if 0 ≤ (x36.getD ((x38).toNat) 0) ∧ (x36.getD ((x38).toNat) 0) < (x4.length : Int) then
      bif (x4.getD ((x36.getD ((x38).toNat) 0).toNat) false) then
       if R64 (x8 + 1) ∧ R64 (x38 + 1) then
        self (.l2 x3 x4 (x8 + 1) x20 x21 x36 x37 (x38 + 1) o1)
       else none
      else
       if R64 (x38 + 1) then
        self (.l2 x3 x4 x8 x20 x21 x36 x37 (x38 + 1) o1)
       else none
     else none
   else none
  else
   some (false, o1)
def loopW_l3 (n : Nat) (self : loopWPt → Option (Bool × (List Int))) (c : ConsD) (q : ProbD) (pos : List Int) (ln : Nat) (lost : List Int) (x3 x4 : List Bool) (x7 : Nat) (x8 x20 x21 : Int) (x36 : List Int) (x37 x38 : Int) (o1 o2 : List Int) : Option (Bool × (List Int)) :=
  bif (decide (x38 < x37)) then
   if (0 ≤ x38 ∧ x38 < (x36.length : Int)) ∧ (0 ≤ (x36.getD ((x38).toNat) 0) ∧ (x36.getD ((x38).toNat) 0) < (x3.length : Int)) then
    bif (x3.getD ((x36.getD ((x38).toNat) 0).toNat) false) then
     if ((0 = 0 ∧ 1 = ([x36.getD ((x38).toNat) 0] : List Int).length) ∧ (0 = 0 ∧ x7 = o2.length) ∧ o2.length + ([x36.getD ((x38).toNat) 0] : List Int).length ≤ LIM) ∧ (0 ≤ (x36.getD ((x38).toNat) 0) ∧ (x36.getD ((x38).toNat) 0) < (x4.length : Int)) then
      bif (x4.getD ((x36.getD ((x38).toNat) 0).toNat) false) then
       if R64 (x8 + 1) ∧ R64 (x38 + 1) then
        self (.l3 x3 x4 (o2.length + ([x36.getD ((x38).toNat) 0] : List Int).length) (x8 + 1) x20 x21 x36 x37 (x38 + 1) o1 (o2 ++ ([x36.getD ((x38).toNat) 0] : List Int)))
       else none
      else
       if R64 (x38 + 1) then
        self (.l3 x3 x4 (o2.length + ([x36.getD ((x38).toNat) 0] : List Int).length) x8 x20 x21 x36 x37 (x38 + 1) o1 (o2 ++ ([x36.getD ((x38).toNat) 0] : List Int)))
       else none
     else none
    else
     if 0 ≤ (x36.getD ((x38).toNat) 0) ∧ (x36.getD ((x38).toNat) 0) < (x4.length : Int) then
      bif (x4.getD ((x36.getD ((x38).toNat) 0).toNat) false) then
       if R64 (x8 + 1) ∧ R64 (x38 + 1) then
        self (.l3 x3 x4 x7 (x8 + 1) x20 x21 x36 x37 (x38 + 1) o1 o2)
       else none
      else
       if R64 (x38 + 1) then
        self (.l3 x3 x4 x7 x8 x20 x21 x36 x37 (x38 + 1) o1 o2)
       else none
     else none
   else none
  else
   bif (decide ((x7 : Int) < 2)) then
    some (false, o1)
   else
    bif (decide (x8 > 2)) then
     some (false, o1)
    else
     self (.l4 x3 x4 x7 x8 x20 x21 x7 (x7 : Int) 0 o1 o2)
def loopW_l4 (n : Nat) (self : loopWPt → Option (Bool × (List Int))) (c : ConsD) (q : ProbD) (pos : List Int) (ln : Nat) (lost : List Int) (x3 x4 : List Bool) (x7 : Nat) (x8 x20 x21 : Int) (x64 : Nat) (x65 x66 : Int) (o1 o2 : List Int) : Option (Bool × (List Int)) :=
  bif (decide (x66 < x65)) then
   if (0 ≤ x66 ∧ x66 < (x64 : Int)) ∧ 0 + ((x66).toNat) < o2.length then
    bif ((x7 : Int) == 2) then
     (onlyW n (o2.getD (0 + ((x66).toNat)) 0) c q pos ln o1).bind fun y1 =>
      bif (x8 == 2) then
       if 0 ≤ (o2.getD (0 + ((x66).toNat)) 0) ∧ (o2.getD (0 + ((x66).toNat)) 0) < (x4.length : Int) then
        bif (!(x4.getD ((o2.getD (0 + ((x66).toNat)) 0).toNat) false)) then
         (loseW n (o2.getD (0 + ((x66).toNat)) 0) c.set c q pos ln y1).bind fun y2 =>
          if R64 (x66 + 1) then
           self (.l4 x3 x4 x7 x8 x20 x21 x64 x65 (x66 + 1) y2 o2)
          else none
        else
         if R64 (x66 + 1) then
          self (.l4 x3 x4 x7 x8 x20 x21 x64 x65 (x66 + 1) y1 o2)
         else none
       else none
      else
       if R64 (x66 + 1) then
        self (.l4 x3 x4 x7 x8 x20 x21 x64 x65 (x66 + 1) y1 o2)
       else none
    else
     bif (x8 == 2) then
      if 0 ≤ (o2.getD (0 + ((x66).toNat)) 0) ∧ (o2.getD (0 + ((x66).toNat)) 0) < (x4.length : Int) then
       bif (!(x4.getD ((o2.getD (0 + ((x66).toNat)) 0).toNat) false)) then
        (loseW n (o2.getD (0 + ((x66).toNat)) 0) c.set c q pos ln o1).bind fun y1 =>
         if R64 (x66 + 1) then
          self (.l4 x3 x4 x7 x8 x20 x21 x64 x65 (x66 + 1) y1 o2)
         else none
       else
        if R64 (x66 + 1) then
         self (.l4 x3 x4 x7 x8 x20 x21 x64 x65 (x66 + 1) o1 o2)
        else none
      else none
     else
      if R64 (x66 + 1) then
       self (.l4 x3 x4 x7 x8 x20 x21 x64 x65 (x66 + 1) o1 o2)
      else none
   else none
  else
   if R64 (x21 + 1) then
    self (.l1 x3 x4 x20 (x21 + 1) o1)
   else none
def loopW_l0 (n : Nat) (self : loopWPt → Option (Bool × (List Int))) (c : ConsD) (q : ProbD) (pos : List Int) (ln : Nat) (lost : List Int) : Option (Bool × (List Int)) :=
  (nodesW n c q pos ln lost).bind fun y1 =>
   self (.l1 y1.1 y1.2.1 (y1.2.1.length : Int) 0 y1.2.2.2)
def loopW_m (c : ConsD) (q : ProbD) (pos : List Int) (ln : Nat) (lost : List Int) : Nat → loopWPt → Option (Bool × (List Int))
  | 0, _ => none
  | n + 1, .l1 x3 x4 x20 x21 o1 => loopW_l1 n (loopW_m c q pos ln lost n) c q pos ln lost x3 x4 x20 x21 o1
  | n + 1, .l2 x3 x4 x8 x20 x21 x36 x37 x38 o1 => loopW_l2 n (loopW_m c q pos ln lost n) c q pos ln lost x3 x4 x8 x20 x21 x36 x37 x38 o1
  | n + 1, .l3 x3 x4 x7 x8 x20 x21 x36 x37 x38 o1 o2 => loopW_l3 n (loopW_m c q pos ln lost n) c q pos ln lost x3 x4 x7 x8 x20 x21 x36 x37 x38 o1 o2
  | n + 1, .l4 x3 x4 x7 x8 x20 x21 x64 x65 x66 o1 o2 => loopW_l4 n (loopW_m c q pos ln lost n) c q pos ln lost x3 x4 x7 x8 x20 x21 x64 x65 x66 o1 o2
def loopW (n : Nat) (c : ConsD) (q : ProbD) (pos : List Int) (ln : Nat) (lost : List Int) : Option (Bool × (List Int)) := loopW_l0 n (loopW_m c q pos ln lost n) c q pos ln lost
/-- What the points stand for. -/
def loopW_at (n : Nat) (B : Nat) (N : Yard Tryd.prog GG 2) (c : ConsD) (q : ProbD) (pos : List Int) (ln : Nat) (lost : List Int) (r : Bool × (List Int)) : loopWPt → Prop
  | .l1 x3 x4 x20 x21 o1 => ∀ m0 : Nat, n ≤ m0 → TrK Tryd.prog GG Fence.wide (some B) 2 N (Fin Tryd.prog Tryd.f48 2 (.bool r.1) [some (.cells (consC c ++ probC q ++ [.ints pos, .msl 1 1 0 ln])), some (.ints r.2)]) (toN m0 (atNC (bodyC Tryd.f48) 0 [])) ⟨frm 95 [(0, .ref 0 0), (3, .bools x3), (4, .bools x4), (20, .i x20), (21, .i x21)], [some (.cells (consC c ++ probC q ++ [.ints pos, .msl 1 1 0 ln])), some (.ints o1)]⟩
  | .l2 x3 x4 x8 x20 x21 x36 x37 x38 o1 => ∀ m0 m1 : Nat, n ≤ m0 → n ≤ m1 → TrK Tryd.prog GG Fence.wide (some B) 2 N (Fin Tryd.prog Tryd.f48 2 (.bool r.1) [some (.cells (consC c ++ probC q ++ [.ints pos, .msl 1 1 0 ln])), some (.ints r.2)]) (toN m1 (atNC (bodyC Tryd.f48) 2 [m0])) ⟨frm 95 [(0, .ref 0 0), (3, .bools x3), (4, .bools x4), (7, .nils), (8, .i x8), (20, .i x20), (21, .i x21), (36, .ints x36), (37, .i x37), (38, .i x38)], [some (.cells (consC c ++ probC q ++ [.ints pos, .msl 1 1 0 ln])), some (.ints o1)]⟩
  | .l3 x3 x4 x7 x8 x20 x21 x36 x37 x38 o1 o2 => ∀ m0 m1 : Nat, n ≤ m0 → n ≤ m1 → TrK Tryd.prog GG Fence.wide (some B) 2 N (Fin Tryd.prog Tryd.f48 2 (.bool r.1) [some (.cells (consC c ++ probC q ++ [.ints pos, .msl 1 1 0 ln])), some (.ints r.2)]) (toN m1 (atNC (bodyC Tryd.f48) 2 [m0])) ⟨frm 95 [(0, .ref 0 0), (3, .bools x3), (4, .bools x4), (7, .msl 2 1 0 x7), (8, .i x8), (20, .i x20), (21, .i x21), (36, .ints x36), (37, .i x37), (38, .i x38)], [some (.cells (consC c ++ probC q ++ [.ints pos, .msl 1 1 0 ln])), some (.ints o1), some (.ints o2)]⟩
  | .l4 x3 x4 x7 x8 x20 x21 x64 x65 x66 o1 o2 => ∀ m0 m1 : Nat, n ≤ m0 → n ≤ m1 → TrK Tryd.prog GG Fence.wide (some B) 2 N (Fin Tryd.prog Tryd.f48 2 (.bool r.1) [some (.cells (consC c ++ probC q ++ [.ints pos, .msl 1 1 0 ln])), some (.ints r.2)]) (toN m1 (atNC (bodyC Tryd.f48) 4 [m0])) ⟨frm 95 [(0, .ref 0 0), (3, .bools x3), (4, .bools x4), (7, .msl 2 1 0 x7), (8, .i x8), (20, .i x20), (21, .i x21), (64, .msl 2 1 0 x64), (65, .i x65), (66, .i x66)], [some (.cells (consC c ++ probC q ++ [.ints pos, .msl 1 1 0 ln])), some (.ints o1), some (.ints o2)]⟩
theorem loopW_all (B : Nat) (N : Yard Tryd.prog GG 2) (c : ConsD) (q : ProbD) (pos : List Int) (ln : Nat) (lost : List Int) : ∀ (n : Nat) (pt : loopWPt) (r : Bool × (List Int)), loopW_m c q pos ln lost n pt = some r → loopW_at n B N c q pos ln lost r pt := by
  intro n; induction n with
  | zero => intro _ _ h; cases h
  | succ n hself =>
   intro pt r h
   cases pt
   case l1 x3 x4 x20 x21 o1 =>
    have h : loopW_l1 n (loopW_m c q pos ln lost n) c q pos ln lost x3 x4 x20 x21 o1 = some r := h
    intro m0 hm0
    refine rd hm0 fun m0 hm0 => ?_
    unfold loopW_l1 at h
    rcases bifSome h with ⟨c0, h⟩ | ⟨c0, h⟩
    · obtain ⟨g0, h⟩ := guardSome h
      have p := H0.b 22 c0 |>.g g0
      rcases bifSome h with ⟨c1, h⟩ | ⟨c1, h⟩
      · obtain ⟨g1, h⟩ := guardSome h
        exact gg sch0 [0, 1] (p.b 28 c1 |>.w 94 g1) (hself _ _ h m0 hm0)
      · obtain ⟨g1, h⟩ := guardSome h
        exact gg sch0 [0, 1] (p.b 28 c1 |>.g g1) (en n (hself _ _ h m0 n hm0 (Nat.le_refl _)))
    · cases h
      exact ee sch0 [2] [0, 1] (H0.b 22 c0)
   case l2 x3 x4 x8 x20 x21 x36 x37 x38 o1 =>
    have h : loopW_l2 n (loopW_m c q pos ln lost n) c q pos ln lost x3 x4 x8 x20 x21 x36 x37 x38 o1 = some r := h
    intro m0 m1 hm0 hm1
    have hm0 := Nat.le_of_succ_le hm0
    refine rd hm1 fun m1 hm1 => ?_
    unfold loopW_l2 at h
    rcases bifSome h with ⟨c0, h⟩ | ⟨c0, h⟩
    · obtain ⟨⟨g0, g1⟩, h⟩ := guardSome h
      have p := H0.b 39 c0 |>.g g0 |>.g g1
      rcases bifSome h with ⟨c1, h⟩ | ⟨c1, h⟩
      · obtain ⟨⟨g2, g3⟩, h⟩ := guardSome h
        have p := p.b 45 c1 |>.g g2 |>.g g3
        rcases bifSome h with ⟨c2, h⟩ | ⟨c2, h⟩
        · obtain ⟨⟨g4, g5⟩, h⟩ := guardSome h
          exact gg sch0 [0, 1, 3] (p.b 53 c2 |>.w 55 g4 |>.w 56 g5) (hself _ _ h m0 m1 hm0 hm1)
        · obtain ⟨g4, h⟩ := guardSome h
          exact gg sch0 [0, 1, 3] (p.b 53 c2 |>.w 56 g4) (hself _ _ h m0 m1 hm0 hm1)
      · obtain ⟨g2, h⟩ := guardSome h
        have p := p.b 45 c1 |>.g g2
        rcases bifSome h with ⟨c2, h⟩ | ⟨c2, h⟩
        · obtain ⟨⟨g3, g4⟩, h⟩ := guardSome h
          exact gg sch0 [0, 1] (p.b 53 c2 |>.w 55 g3 |>.w 56 g4) (hself _ _ h m0 m1 hm0 hm1)
        · obtain ⟨g3, h⟩ := guardSome h
          exact gg sch0 [0, 1] (p.b 53 c2 |>.w 56 g3) (hself _ _ h m0 m1 hm0 hm1)
    · cases h
      exact ee sch0 [2] [0, 1] (H0.b 39 c0)
   case l3 x3 x4 x7 x8 x20 x21 x36 x37 x38 o1 o2 =>
    have h : loopW_l3 n (loopW_m c q pos ln lost n) c q pos ln lost x3 x4 x7 x8 x20 x21 x36 x37 x38 o1 o2 = some r := h
    intro m0 m1 hm0 hm1
    have hm0 := Nat.le_of_succ_le hm0
    refine rd hm1 fun m1 hm1 => ?_
    unfold loopW_l3 at h
    rcases bifSome h with ⟨c0, h⟩ | ⟨c0, h⟩
    · obtain ⟨⟨g0, g1⟩, h⟩ := guardSome h
      have p := H0.b 39 c0 |>.g g0 |>.g g1
      rcases bifSome h with ⟨c1, h⟩ | ⟨c1, h⟩
      · obtain ⟨⟨g2, g3⟩, h⟩ := guardSome h
        have p := p.b 45 c1 |>.g g2 |>.g g3
        rcases bifSome h with ⟨c2, h⟩ | ⟨c2, h⟩
        · obtain ⟨⟨g4, g5⟩, h⟩ := guardSome h
          exact gg sch0 [0, 1, 4] (p.b 53 c2 |>.w 55 g4 |>.w 56 g5) (hself _ _ h m0 m1 hm0 hm1)
        · obtain ⟨g4, h⟩ := guardSome h
          exact gg sch0 [0, 1, 4] (p.b 53 c2 |>.w 56 g4) (hself _ _ h m0 m1 hm0 hm1)
      · obtain ⟨g2, h⟩ := guardSome h
        have p := p.b 45 c1 |>.g g2
        rcases bifSome h with ⟨c2, h⟩ | ⟨c2, h⟩
        · obtain ⟨⟨g3, g4⟩, h⟩ := guardSome h
          exact gg sch0 [0, 1, 2] (p.b 53 c2 |>.w 55 g3 |>.w 56 g4) (hself _ _ h m0 m1 hm0 hm1)
        · obtain ⟨g3, h⟩ := guardSome h
          exact gg sch0 [0, 1, 2] (p.b 53 c2 |>.w 56 g3) (hself _ _ h m0 m1 hm0 hm1)
    · have p := H0.b 39 c0
      rcases bifSome h with ⟨c1, h⟩ | ⟨c1, h⟩
      · cases h
        exact ee sch0 [2] [0, 1] (p.b 59 c1)
      · have p := p.b 59 c1
        rcases bifSome h with ⟨c2, h⟩ | ⟨c2, h⟩
        · cases h
          exact ee sch0 [2] [0, 1] (p.b 62 c2)
        · exact gg sch0 [0, 1, 2] (p.b 62 c2) (en n (hself _ _ h m0 n hm0 (Nat.le_refl _)))
   case l4 x3 x4 x7 x8 x20 x21 x64 x65 x66 o1 o2 =>
    have h : loopW_l4 n (loopW_m c q pos ln lost n) c q pos ln lost x3 x4 x7 x8 x20 x21 x64 x65 x66 o1 o2 = some r := h
    intro m0 m1 hm0 hm1
    have hm0 := Nat.le_of_succ_le hm0
    refine rd hm1 fun m1 hm1 => ?_
    unfold loopW_l4 at h
    rcases bifSome h with ⟨c0, h⟩ | ⟨c0, h⟩
    · obtain ⟨⟨g0, g1⟩, h⟩ := guardSome h
      have p := H0.b 67 c0 |>.g g0 |>.g g1
      rcases bifSome h with ⟨c1, h⟩ | ⟨c1, h⟩
      · obtain ⟨y1, hy1, h⟩ := bindSome h
        have p := p.b 72 c1 |>.c (em (onlyW_ok hy1) [0, 1] [some (.cells (consC c ++ probC q ++ [.ints pos, .msl 1 1 0 ln])), some (.ints o1), some (.ints o2)])
        rcases bifSome h with ⟨c2, h⟩ | ⟨c2, h⟩
        · obtain ⟨g2, h⟩ := guardSome h
          have p := p.b 77 c2 |>.g g2
          rcases bifSome h with ⟨c3, h⟩ | ⟨c3, h⟩
          · obtain ⟨y2, hy2, h⟩ := bindSome h
            obtain ⟨g3, h⟩ := guardSome h
            exact gg sch0 [0, 1, 2] (p.b 83 c3 |>.c (em (loseW_ok hy2) [0, 1] [some (.cells (consC c ++ probC q ++ [.ints pos, .msl 1 1 0 ln])), some (.ints y1), some (.ints o2)]) |>.w 93 g3) (hself _ _ h m0 m1 hm0 hm1)
          · obtain ⟨g3, h⟩ := guardSome h
            exact gg sch0 [0, 1, 2] (p.b 83 c3 |>.w 93 g3) (hself _ _ h m0 m1 hm0 hm1)
        · obtain ⟨g2, h⟩ := guardSome h
          exact gg sch0 [0, 1, 2] (p.b 77 c2 |>.w 93 g2) (hself _ _ h m0 m1 hm0 hm1)
      · have p := p.b 72 c1
        rcases bifSome h with ⟨c2, h⟩ | ⟨c2, h⟩
        · obtain ⟨g2, h⟩ := guardSome h
          have p := p.b 77 c2 |>.g g2
          rcases bifSome h with ⟨c3, h⟩ | ⟨c3, h⟩
          · obtain ⟨y1, hy1, h⟩ := bindSome h
            obtain ⟨g3, h⟩ := guardSome h
            exact gg sch0 [0, 1, 2] (p.b 83 c3 |>.c (em (loseW_ok hy1) [0, 1] [some (.cells (consC c ++ probC q ++ [.ints pos, .msl 1 1 0 ln])), some (.ints o1), some (.ints o2)]) |>.w 93 g3) (hself _ _ h m0 m1 hm0 hm1)
          · obtain ⟨g3, h⟩ := guardSome h
            exact gg sch0 [0, 1, 2] (p.b 83 c3 |>.w 93 g3) (hself _ _ h m0 m1 hm0 hm1)
        · obtain ⟨g2, h⟩ := guardSome h
          exact gg sch0 [0, 1, 2] (p.b 77 c2 |>.w 93 g2) (hself _ _ h m0 m1 hm0 hm1)
    · obtain ⟨g0, h⟩ := guardSome h
      exact gg sch0 [0, 1] (H0.b 67 c0 |>.w 94 g0) (hself _ _ h m0 hm0)
theorem loopW_ok {n : Nat} {c : ConsD} {q : ProbD} {pos : List Int} {ln : Nat} {lost : List Int} {r : Bool × (List Int)} (h : loopW n c q pos ln lost = some r) : ES Tryd.prog GG 48 [.ref 0 0] [some (.cells (consC c ++ probC q ++ [.ints pos, .msl 1 1 0 ln])), some (.ints lost)] (.bool r.1) [some (.cells (consC c ++ probC q ++ [.ints pos, .msl 1 1 0 ln])), some (.ints r.2)] false := by
  refine ot Tryd.func48 fun B N => ?_
  have hself := loopW_all B N c q pos ln lost n
  unfold loopW at h
  unfold loopW_l0 at h
  obtain ⟨y1, hy1, h⟩ := bindSome h
  exact gg sch0 [0, 1] (H0.c (em (nodesW_ok hy1) [0, 1] [some (.cells (consC c ++ probC q ++ [.ints pos, .msl 1 1 0 ln])), some (.ints lost)])) (en n (hself _ _ h n (Nat.le_refl _)))
end Go.Proofs.YtekkngkphejfcaaDoor
namespace Go.Proofs.YtekkngkphejfcaaDoor
open Go.RowKit
set_option maxRecDepth 100000
set_option maxHeartbeats 40000000
def t_nextF_2 : ST := .rd 0 (.rd 1 (.rd 2 (.rd 3 (.rd 4 (.rd 5 (.rd 6 (.rd 7 (.rd 8 (.rd 9 (.rd 10 (.rd 11 (.rd 12 (.rd 13 (.rd 14 (.rd 15 (.rd 16 (.rd 17 (.rd 18 (.rd 19 (.rd 20 (.rd 21 (.rd 22 (.rd 23 (.rd 24 (.rd 25 (.rd 26 (.rd 27 (.rd 28 (.ef 29 (.rd 30 (.fin [] [5, 6])) (.no))))))))))))))))))))))))))))))
theorem s_nextF_2 : TOk (regF Tryd.f62 2) [29] t_nextF_2 := by unfold TOk; kernel_rfl
def t_nextF_5 : ST := .rd 0 (.rd 1 (.rd 2 (.rd 3 (.rd 4 (.rd 5 (.rd 6 (.rd 7 (.rd 8 (.rd 9 (.rd 10 (.rd 11 (.rd 12 (.rd 13 (.rd 14 (.rd 15 (.ef 16 (.rd 17 (.fin [] [5, 6])) (.no)))))))))))))))))
theorem s_nextF_5 : TOk (regF Tryd.f62 5) [16] t_nextF_5 := by unfold TOk; kernel_rfl
def sch_nextF : Sch := fun i => match i with
  | 2 => .tre [29] t_nextF_2
  | 5 => .tre [16] t_nextF_5
  | _ => .no
def tgt_nextF_0 (s_ : Int × Int) (c : ConsD) (q : ProbD) (pos : List Int) (ln : Nat) (lost : List Int) : St := ⟨(frm 59 [(5, .ref 4 0), (6, .bool (decide (s_.2 < (c.runs.getD ((s_.1).toNat) 0))))]), ([some (.cells [.ref 1 0]), some (.cells (consC c ++ probC q ++ [.ints pos, .msl 2 1 0 ln])), some (.ints lost), some (.cells [.i s_.1, .i s_.2]), some (.cells [.i s_.1, .i (s_.2 + 1)])] : DH)⟩
def tgt_nextF_1 (c : ConsD) (q : ProbD) (pos : List Int) (ln : Nat) (lost : List Int) (s_ : Int × Int) : St := ⟨(frm 59 [(5, .ref 4 0), (6, .bool false)]), ([some (.cells [.ref 1 0]), some (.cells (consC c ++ probC q ++ [.ints pos, .msl 2 1 0 ln])), some (.ints lost), some (.cells [.i s_.1, .i s_.2]), some (.cells [.i s_.1, .i (s_.2 + 1)])] : DH)⟩
def tgt_nextF_2 (s_ : Int × Int) (c : ConsD) (q : ProbD) (pos : List Int) (ln : Nat) (lost : List Int) : St := ⟨(frm 59 [(5, .ref 4 0), (6, .bool (s_.2 == (c.runs.getD ((s_.1).toNat) 0)))]), ([some (.cells [.ref 1 0]), some (.cells (consC c ++ probC q ++ [.ints pos, .msl 2 1 0 ln])), some (.ints lost), some (.cells [.i s_.1, .i s_.2]), some (.cells [.i (s_.1 + 1), .i 0])] : DH)⟩
def nextF_l0 (n : Nat) (s_ : Int × Int) (in_ : Bool) (c : ConsD) (q : ProbD) (pos : List Int) (ln : Nat) (lost : List Int) : Option ((Int × Int) × Bool × (List Int)) :=
  bif in_ then
   if R64 (s_.2 + 1) then
    bif (decide (s_.1 < (c.runs.length : Int))) then
     if 0 ≤ s_.1 ∧ s_.1 < (c.runs.length : Int) then
      some ((s_.1, (s_.2 + 1)), (decide (s_.2 < (c.runs.getD ((s_.1).toNat) 0))), lost)
     else none
    else
     some ((s_.1, (s_.2 + 1)), false, lost)
   else none
  else
   bif (s_.2 == 0) then
    some ((s_.1, s_.2), true, lost)
   else
    if R64 (s_.1 + 1) ∧ (0 ≤ s_.1 ∧ s_.1 < (c.runs.length : Int)) then
     some (((s_.1 + 1), 0), (s_.2 == (c.runs.getD ((s_.1).toNat) 0)), lost)
    else none
def nextF (n : Nat) (s_ : Int × Int) (in_ : Bool) (c : ConsD) (q : ProbD) (pos : List Int) (ln : Nat) (lost : List Int) : Option ((Int × Int) × Bool × (List Int)) := nextF_l0 n s_ in_ c q pos ln lost
theorem nextF_ok {n : Nat} {s_ : Int × Int} {in_ : Bool} {c : ConsD} {q : ProbD} {pos : List Int} {ln : Nat} {lost : List Int} {r : (Int × Int) × Bool × (List Int)} (h : nextF n s_ in_ c q pos ln lost = some r) : ES Tryd.prog GG 62 [.agg 2 (L1 [.i s_.1, .i s_.2]), .bool in_, .ref 0 0] [some (.cells [.ref 1 0]), some (.cells (consC c ++ probC q ++ [.ints pos, .msl 2 1 0 ln])), some (.ints lost)] (.tup 2 (L1 [.agg 2 (L1 [.i r.1.1, .i r.1.2]), .bool r.2.1])) [some (.cells [.ref 1 0]), some (.cells (consC c ++ probC q ++ [.ints pos, .msl 2 1 0 ln])), some (.ints r.2.2)] false := by
  refine ot Tryd.func62 fun B N => ?_
  unfold nextF at h
  unfold nextF_l0 at h
  rcases bifSome h with ⟨c0, h⟩ | ⟨c0, h⟩
  · obtain ⟨g0, h⟩ := guardSome h
    have p := H0.b 8 c0 |>.g s_nextF_2 |>.w 13 g0
    rcases bifSome h with ⟨c1, h⟩ | ⟨c1, h⟩
    · obtain ⟨g1, h⟩ := guardSome h
      cases h
      exact ee (tg := [([(29, 4)], (tgt_nextF_0 s_ c q pos ln lost))]) sch_nextF [5, 6] [0, 1, 2, 4] (p.b 23 c1 |>.g g1 |>.t |>.g (Eq.refl (tgt_nextF_0 s_ c q pos ln lost)))
    · cases h
      exact ee (tg := [([(29, 4)], (tgt_nextF_1 c q pos ln lost s_))]) sch_nextF [5, 6] [0, 1, 2, 4] (p.b 23 c1 |>.t |>.g (Eq.refl (tgt_nextF_1 c q pos ln lost s_)))
  · have p := H0.b 8 c0
    rcases bifSome h with ⟨c1, h⟩ | ⟨c1, h⟩
    · cases h
      exact ee sch_nextF [5, 6] [0, 1, 2, 4] (p.b 41 c1 |>.t)
    · obtain ⟨⟨g0, g1⟩, h⟩ := guardSome h
      cases h
      exact ee (tg := [([(16, 4)], (tgt_nextF_2 s_ c q pos ln lost))]) sch_nextF [5, 6] [0, 1, 2, 4] (p.b 41 c1 |>.g s_nextF_5 |>.w 45 g0 |>.g g1 |>.t |>.g (Eq.refl (tgt_nextF_2 s_ c q pos ln lost)))
theorem s_kindF_2 : SOk (regF Tryd.f63 2) [] (List.range 22) [] := by unfold SOk; kernel_rfl
theorem s_kindF_3 : SOk (regF Tryd.f63 3) [] (List.range 22) [] := by unfold SOk; kernel_rfl
def sch_kindF : Sch := fun i => match i with
  | 2 => .ord [] (List.range 22) []
  | 3 => .ord [] (List.range 22) []
  | _ => .no
def kindF_l0 (n : Nat) (i_ : Int) (in_ : Bool) (c : ConsD) (q : ProbD) (pos : List Int) (ln : Nat) (lost : List Int) : Option (Bool × (List Int)) :=
  bif in_ then
   if (0 ≤ i_ ∧ i_ < (c.cells.length : Int)) ∧ (0 ≤ (c.cells.getD ((i_).toNat) 0) ∧ (c.cells.getD ((i_).toNat) 0) < (pos.length : Int)) then
    some (((bits .and .i64 (pos.getD ((c.cells.getD ((i_).toNat) 0).toNat) 0) c.set) != 0), lost)
   else none
  else
   if (0 ≤ i_ ∧ i_ < (c.cells.length : Int)) ∧ (0 ≤ (c.cells.getD ((i_).toNat) 0) ∧ (c.cells.getD ((i_).toNat) 0) < (pos.length : Int)) then
    some (((bits .andNot .i64 (pos.getD ((c.cells.getD ((i_).toNat) 0).toNat) 0) c.set) != 0), lost)
   else none
def kindF (n : Nat) (i_ : Int) (in_ : Bool) (c : ConsD) (q : ProbD) (pos : List Int) (ln : Nat) (lost : List Int) : Option (Bool × (List Int)) := kindF_l0 n i_ in_ c q pos ln lost
theorem kindF_ok {n : Nat} {i_ : Int} {in_ : Bool} {c : ConsD} {q : ProbD} {pos : List Int} {ln : Nat} {lost : List Int} {r : Bool × (List Int)} (h : kindF n i_ in_ c q pos ln lost = some r) : ES Tryd.prog GG 63 [.i i_, .bool in_, .ref 0 0] [some (.cells [.ref 1 0]), some (.cells (consC c ++ probC q ++ [.ints pos, .msl 2 1 0 ln])), some (.ints lost)] (.bool r.1) [some (.cells [.ref 1 0]), some (.cells (consC c ++ probC q ++ [.ints pos, .msl 2 1 0 ln])), some (.ints r.2)] false := by
  refine ot Tryd.func63 fun B N => ?_
  unfold kindF at h
  unfold kindF_l0 at h
  rcases bifSome h with ⟨c0, h⟩ | ⟨c0, h⟩
  · obtain ⟨⟨g0, g1⟩, h⟩ := guardSome h
    cases h
    exact ee sch_kindF [5] [0, 1, 2] (H0.b 6 c0 |>.g s_kindF_2 |>.g g0 |>.g g1)
  · obtain ⟨⟨g0, g1⟩, h⟩ := guardSome h
    cases h
    exact ee sch_kindF [5] [0, 1, 2] (H0.b 6 c0 |>.g s_kindF_3 |>.g g0 |>.g g1)
theorem s_runsW_24 : SOk (regF Tryd.f44 24) [] (List.range 6) [6] := by unfold SOk; kernel_rfl
def t_runsW_49 : ST := .rd 0 (.rd 1 (.rd 2 (.rd 3 (.rd 4 (.rd 5 (.rd 6 (.rd 7 (.rd 8 (.rd 9 (.rd 10 (.rd 11 (.rd 12 (.rd 13 (.ef 14 (.fin [] [1, 3, 5, 7, 14, 16, 18]) (.no)))))))))))))))
theorem s_runsW_49 : TOk (regF Tryd.f44 49) [] t_runsW_49 := by unfold TOk; kernel_rfl
def t_runsW_51 : ST := .rd 0 (.rd 1 (.rd 2 (.rd 3 (.rd 4 (.rd 5 (.rd 6 (.rd 7 (.rd 8 (.ef 9 (.fin [] [1, 3, 5, 7, 14, 16]) (.no))))))))))
theorem s_runsW_51 : TOk (regF Tryd.f44 51) [] t_runsW_51 := by unfold TOk; kernel_rfl
def sch_runsW : Sch := fun i => match i with
  | 24 => .ord [] (List.range 6) [6]
  | 49 => .tre [] t_runsW_49
  | 51 => .tre [] t_runsW_51
  | _ => .no
def hp_runsW_0 (c : ConsD) (q : ProbD) (pos : List Int) (ln : Nat) (o1 : List Int) (o3 : List (Option KS)) : DH := [some (.cells (consC c ++ probC q ++ [.ints pos, .msl 1 1 0 ln])), some (.ints o1), some (.cells [.ref 0 0]), some (.mo (.sets 2 o3 none))]
def hp_runsW_1 (c : ConsD) (q : ProbD) (pos : List Int) (ln : Nat) (o1 : List Int) (o3 : List (Option KS)) (x59 : Int) (gk : LK) : DH := [some (.cells (consC c ++ probC q ++ [.ints pos, .msl 1 1 0 ln])), some (.ints o1), some (.cells [.ref 0 0]), some (.mo (.sets 2 o3 (some (0 + ((x59).toNat), gk))))]
def hp_runsW_2 (c : ConsD) (q : ProbD) (pos : List Int) (ln : Nat) (o1 : List Int) (o3 : List (Option KS)) (o3_i : Nat) (gk : LK) (o4 : KS) : DH := [some (.cells (consC c ++ probC q ++ [.ints pos, .msl 1 1 0 ln])), some (.ints o1), some (.cells [.ref 0 0]), some (.mo (.sets 2 o3 (some (o3_i, gk)))), some (.mo (.mit 2 gk.1 gk.2.1 gk.2.2 o4 none))]
def hp_runsW_3 (c : ConsD) (q : ProbD) (pos : List Int) (ln : Nat) (o1 : List Int) (o3 : List (Option KS)) (o3_i : Nat) (gk : LK) (o4 : KS) (y1 : List Int) : DH := [some (.cells (consC c ++ probC q ++ [.ints pos, .msl 1 1 0 ln])), some (.ints o1), some (.cells [.ref 0 0]), some (.mo (.sets 2 o3 (some (o3_i, gk)))), some (.mo (.mit 2 gk.1 gk.2.1 gk.2.2 (o4.erase y1) (some y1)))]
def hp_runsW_4 (c : ConsD) (q : ProbD) (pos : List Int) (ln : Nat) (o1 : List Int) (o3 : List (Option KS)) (o4 : KS) : DH := [some (.cells (consC c ++ probC q ++ [.ints pos, .msl 1 1 0 ln])), some (.ints o1), some (.cells [.ref 0 0]), some (.mo (.sets 2 o3 none)), some (.mo (.set 2 o4)), some (.mo (.set 2 ([] : KS))), some (.cells [.bool false, .bool false])]
def hp_runsW_5 (c : ConsD) (q : ProbD) (pos : List Int) (ln : Nat) (o1 : List Int) (o3 : List (Option KS)) (x16 : Int) (gk : LK) (o4 : KS) : DH := [some (.cells (consC c ++ probC q ++ [.ints pos, .msl 1 1 0 ln])), some (.ints o1), some (.cells [.ref 0 0]), some (.mo (.sets 2 o3 (some (0 + ((x16).toNat), gk)))), some (.mo (.set 2 o4)), some (.mo (.set 2 ([] : KS))), some (.cells [.bool false, .bool false])]
def hp_runsW_6 (c : ConsD) (q : ProbD) (pos : List Int) (ln : Nat) (o1 : List Int) (o3 : List (Option KS)) (o3_i : Nat) (gk : LK) (o4_0 o4_1 : Int) (o5 : KS) (o5_c : List Int) : DH := [some (.cells (consC c ++ probC q ++ [.ints pos, .msl 1 1 0 ln])), some (.ints o1), some (.cells [.ref 0 0]), some (.mo (.sets 2 o3 (some (o3_i, gk)))), some (.cells [.i o4_0, .i o4_1]), some (.mo (.mit 2 gk.1 gk.2.1 gk.2.2 o5 (some o5_c))), some (.bools ([false, true] : List Bool))]
def hp_runsW_7 (c : ConsD) (q : ProbD) (pos : List Int) (ln : Nat) (y1 : (Int × Int) × Bool × (List Int)) (o3 : List (Option KS)) (o3_i : Nat) (gk : LK) (o4_0 o4_1 : Int) (o5 : KS) (o5_c : List Int) : DH := [some (.cells (consC c ++ probC q ++ [.ints pos, .msl 1 1 0 ln])), some (.ints y1.2.2), some (.cells [.ref 0 0]), some (.mo (.sets 2 o3 (some (o3_i, gk)))), some (.cells [.i o4_0, .i o4_1]), some (.mo (.mit 2 gk.1 gk.2.1 gk.2.2 o5 (some o5_c))), some (.bools ([false, true] : List Bool)), some (.cells [.i y1.1.1, .i y1.1.2])]
def hp_runsW_8 (c : ConsD) (q : ProbD) (pos : List Int) (ln : Nat) (o1 : List Int) (o3 : List (Option KS)) (o3_i : Nat) (gk : LK) (o4 o7 : KS) : DH := [some (.cells (consC c ++ probC q ++ [.ints pos, .msl 1 1 0 ln])), some (.ints o1), some (.cells [.ref 0 0]), some (.mo (.sets 2 o3 (some (o3_i, gk)))), some (.mo (.set 2 o4)), some (.mo (.set 2 ([] : KS))), some (.cells [.bool false, .bool false]), some (.mo (.mit 2 gk.1 gk.2.1 gk.2.2 o7 none))]
def tgt_runsW_9 (c : ConsD) (x16 : Int) (q : ProbD) (pos : List Int) (ln : Nat) (y2 : (List Int)) (o3 : List (Option KS)) (o4 : KS) : St := ⟨(frm 208 [(1, .ref 2 0), (3, .fn 62 1 (L1 [.ref 2 0])), (5, .msl 3 1 0 ((((c.cells.length : Int) + 1)).toNat)), (7, .fn 63 1 (L1 [.ref 2 0])), (14, .it 5), (16, .i x16), (18, .ref 6 0)]), ([some (.cells (consC c ++ probC q ++ [.ints pos, .msl 1 1 0 ln])), some (.ints y2), some (.cells [.ref 0 0]), some (.mo (.sets 2 o3 none)), some (.mo (.set 2 o4)), some (.mo (.set 2 ([] : KS))), some (.cells [.bool false, .bool false])] : DH)⟩
def hp_runsW_10 (c : ConsD) (q : ProbD) (pos : List Int) (ln : Nat) (y2 : (List Int)) (o3 : List (Option KS)) (o4 : KS) : DH := [some (.cells (consC c ++ probC q ++ [.ints pos, .msl 1 1 0 ln])), some (.ints y2), some (.cells [.ref 0 0]), some (.mo (.sets 2 o3 none)), some (.mo (.set 2 o4)), some (.mo (.set 2 ([] : KS))), some (.cells [.bool false, .bool false])]
def tgt_runsW_11 (c : ConsD) (x16 : Int) (q : ProbD) (pos : List Int) (ln : Nat) (y3 : (List Int)) (o3 : List (Option KS)) (o4 : KS) : St := ⟨(frm 208 [(1, .ref 2 0), (3, .fn 62 1 (L1 [.ref 2 0])), (5, .msl 3 1 0 ((((c.cells.length : Int) + 1)).toNat)), (7, .fn 63 1 (L1 [.ref 2 0])), (14, .it 5), (16, .i x16)]), ([some (.cells (consC c ++ probC q ++ [.ints pos, .msl 1 1 0 ln])), some (.ints y3), some (.cells [.ref 0 0]), some (.mo (.sets 2 o3 none)), some (.mo (.set 2 o4)), some (.mo (.set 2 ([] : KS))), some (.cells [.bool false, .bool false])] : DH)⟩
def hp_runsW_12 (c : ConsD) (q : ProbD) (pos : List Int) (ln : Nat) (o1 : List Int) (o3 : List (Option KS)) (o3_i : Nat) (gk : LK) (o4 o7 : KS) (y1 : List Int) : DH := [some (.cells (consC c ++ probC q ++ [.ints pos, .msl 1 1 0 ln])), some (.ints o1), some (.cells [.ref 0 0]), some (.mo (.sets 2 o3 (some (o3_i, gk)))), some (.mo (.set 2 o4)), some (.mo (.set 2 ([] : KS))), some (.cells [.bool false, .bool false]), some (.mo (.mit 2 gk.1 gk.2.1 gk.2.2 (o7.erase y1) (some y1)))]
def hp_runsW_13 (c : ConsD) (q : ProbD) (pos : List Int) (ln : Nat) (o1 : List Int) (o3 : List (Option KS)) (o3_i : Nat) (gk : LK) (o4 o5 : KS) (o6_0 o6_1 : Bool) (o7_0 o7_1 : Int) (o8 : KS) (o8_c : List Int) : DH := [some (.cells (consC c ++ probC q ++ [.ints pos, .msl 1 1 0 ln])), some (.ints o1), some (.cells [.ref 0 0]), some (.mo (.sets 2 o3 (some (o3_i, gk)))), some (.mo (.set 2 o4)), some (.mo (.set 2 o5)), some (.cells [.bool o6_0, .bool o6_1]), some (.cells [.i o7_0, .i o7_1]), some (.mo (.mit 2 gk.1 gk.2.1 gk.2.2 o8 (some o8_c))), some (.bools ([false, true] : List Bool))]
def hp_runsW_14 (c : ConsD) (q : ProbD) (pos : List Int) (ln : Nat) (y1 : (Int × Int) × Bool × (List Int)) (o3 : List (Option KS)) (o3_i : Nat) (gk : LK) (o4 o5 : KS) (o6_0 o6_1 : Bool) (o7_0 o7_1 : Int) (o8 : KS) (o8_c : List Int) : DH := [some (.cells (consC c ++ probC q ++ [.ints pos, .msl 1 1 0 ln])), some (.ints y1.2.2), some (.cells [.ref 0 0]), some (.mo (.sets 2 o3 (some (o3_i, gk)))), some (.mo (.set 2 o4)), some (.mo (.set 2 o5)), some (.cells [.bool o6_0, .bool o6_1]), some (.cells [.i o7_0, .i o7_1]), some (.mo (.mit 2 gk.1 gk.2.1 gk.2.2 o8 (some o8_c))), some (.bools ([false, true] : List Bool)), some (.cells [.i y1.1.1, .i y1.1.2])]
def hp_runsW_15 (c : ConsD) (q : ProbD) (pos : List Int) (ln : Nat) (o1 : List Int) (o3 : List (Option KS)) (o3_i : Nat) (gk : LK) (o4 : KS) (o4_c : List Int) : DH := [some (.cells (consC c ++ probC q ++ [.ints pos, .msl 1 1 0 ln])), some (.ints o1), some (.cells [.ref 0 0]), some (.mo (.sets 2 o3 (some (o3_i, gk)))), some (.mo (.mit 2 gk.1 gk.2.1 gk.2.2 o4 (some o4_c)))]
def hp_runsW_16 (c : ConsD) (q : ProbD) (pos : List Int) (ln : Nat) (o1 : List Int) (o3 : List (Option KS)) (o3_i : Nat) (gk : LK) (o4 o5 : KS) (o6_0 o6_1 : Bool) (o7 : KS) (o7_c : List Int) : DH := [some (.cells (consC c ++ probC q ++ [.ints pos, .msl 1 1 0 ln])), some (.ints o1), some (.cells [.ref 0 0]), some (.mo (.sets 2 o3 (some (o3_i, gk)))), some (.mo (.set 2 o4)), some (.mo (.set 2 o5)), some (.cells [.bool o6_0, .bool o6_1]), some (.mo (.mit 2 gk.1 gk.2.1 gk.2.2 o7 (some o7_c)))]
def hp_runsW_17 (c : ConsD) (q : ProbD) (pos : List Int) (ln : Nat) (o1 : List Int) (o3 : List (Option KS)) (o4 o5 : KS) (o6_0 o6_1 : Bool) : DH := [some (.cells (consC c ++ probC q ++ [.ints pos, .msl 1 1 0 ln])), some (.ints o1), some (.cells [.ref 0 0]), some (.mo (.sets 2 o3 none)), some (.mo (.set 2 o4)), some (.mo (.set 2 o5)), some (.cells [.bool o6_0, .bool o6_1])]
def tgt_runsW_18 (c : ConsD) (x16 : Int) (q : ProbD) (pos : List Int) (ln : Nat) (y2 : (List Int)) (o3 : List (Option KS)) (o4 o5 : KS) (o6_0 o6_1 : Bool) : St := ⟨(frm 208 [(1, .ref 2 0), (3, .fn 62 1 (L1 [.ref 2 0])), (5, .msl 3 1 0 ((((c.cells.length : Int) + 1)).toNat)), (7, .fn 63 1 (L1 [.ref 2 0])), (14, .it 5), (16, .i x16), (18, .ref 6 0)]), ([some (.cells (consC c ++ probC q ++ [.ints pos, .msl 1 1 0 ln])), some (.ints y2), some (.cells [.ref 0 0]), some (.mo (.sets 2 o3 none)), some (.mo (.set 2 o4)), some (.mo (.set 2 o5)), some (.cells [.bool o6_0, .bool o6_1])] : DH)⟩
def hp_runsW_19 (c : ConsD) (q : ProbD) (pos : List Int) (ln : Nat) (y2 : (List Int)) (o3 : List (Option KS)) (o4 o5 : KS) (o6_0 o6_1 : Bool) : DH := [some (.cells (consC c ++ probC q ++ [.ints pos, .msl 1 1 0 ln])), some (.ints y2), some (.cells [.ref 0 0]), some (.mo (.sets 2 o3 none)), some (.mo (.set 2 o4)), some (.mo (.set 2 o5)), some (.cells [.bool o6_0, .bool o6_1])]
def tgt_runsW_20 (c : ConsD) (x16 : Int) (q : ProbD) (pos : List Int) (ln : Nat) (y3 : (List Int)) (o3 : List (Option KS)) (o4 o5 : KS) (o6_0 o6_1 : Bool) : St := ⟨(frm 208 [(1, .ref 2 0), (3, .fn 62 1 (L1 [.ref 2 0])), (5, .msl 3 1 0 ((((c.cells.length : Int) + 1)).toNat)), (7, .fn 63 1 (L1 [.ref 2 0])), (14, .it 5), (16, .i x16)]), ([some (.cells (consC c ++ probC q ++ [.ints pos, .msl 1 1 0 ln])), some (.ints y3), some (.cells [.ref 0 0]), some (.mo (.sets 2 o3 none)), some (.mo (.set 2 o4)), some (.mo (.set 2 o5)), some (.cells [.bool o6_0, .bool o6_1])] : DH)⟩
def tgt_runsW_21 (c : ConsD) (x16 : Int) (q : ProbD) (pos : List Int) (ln : Nat) (y2 : (List Int)) (o3 : List (Option KS)) (o4 o5 : KS) (o6_0 o6_1 : Bool) : St := ⟨(frm 208 [(1, .ref 2 0), (3, .fn 62 1 (L1 [.ref 2 0])), (5, .msl 3 1 0 ((((c.cells.length : Int) + 1)).toNat)), (7, .fn 63 1 (L1 [.ref 2 0])), (14, .it 5), (16, .i x16)]), ([some (.cells (consC c ++ probC q ++ [.ints pos, .msl 1 1 0 ln])), some (.ints y2), some (.cells [.ref 0 0]), some (.mo (.sets 2 o3 none)), some (.mo (.set 2 o4)), some (.mo (.set 2 o5)), some (.cells [.bool o6_0, .bool o6_1])] : DH)⟩
def hp_runsW_22 (c : ConsD) (q : ProbD) (pos : List Int) (ln : Nat) (o1 : List Int) (o3 : List (Option KS)) (o3_i : Nat) (gk : LK) (o4 o5 : KS) (o6_0 o6_1 : Bool) (o7 : KS) (y1 : List Int) : DH := [some (.cells (consC c ++ probC q ++ [.ints pos, .msl 1 1 0 ln])), some (.ints o1), some (.cells [.ref 0 0]), some (.mo (.sets 2 o3 (some (o3_i, gk)))), some (.mo (.set 2 o4)), some (.mo (.set 2 o5)), some (.cells [.bool o6_0, .bool o6_1]), some (.mo (.mit 2 gk.1 gk.2.1 gk.2.2 (o7.erase y1) (some y1)))]
inductive runsWPt where
  | l1 (x45 : Int) (o3 : List (Option KS))
  | l2 (x59 : Int) (o1 : List Int) (o3 : List (Option KS))
  | l3 (x8 x59 : Int) (o1 : List Int) (o3 : List (Option KS)) (o3_i : Nat) (o4 : KS)
  | l4 (x16 : Int) (o1 : List Int) (o3 : List (Option KS)) (o4 : KS)
  | l5 (x8 x59 x73 : Int) (o1 : List Int) (o3 : List (Option KS)) (o3_i : Nat) (o4_0 o4_1 : Int) (o5 : KS) (o5_c : List Int)
  | l6 (x16 : Int) (o1 : List Int) (o3 : List (Option KS)) (o3_i : Nat) (o4 o7 : KS)
  | l7 (x16 x147 : Int) (o1 : List Int) (o3 : List (Option KS)) (o3_i : Nat) (o4 o5 : KS) (o6_0 o6_1 : Bool) (o7_0 o7_1 : Int) (o8 : KS) (o8_c : List Int)
  | l8 (x8 x59 : Int) (o1 : List Int) (o3 : List (Option KS)) (o3_i : Nat) (o4 : KS) (o4_c : List Int)
  | l9 (x16 : Int) (o1 : List Int) (o3 : List (Option KS)) (o3_i : Nat) (o4 o5 : KS) (o6_0 o6_1 : Bool) (o7 : KS) (o7_c : List Int)
def runsW_l1 (n : Nat) (self : runsWPt → Option (Bool × (List Int))) (c : ConsD) (q : ProbD) (pos : List Int) (ln : Nat) (lost : List Int) (x45 : Int) (o3 : List (Option KS)) : Option (Bool × (List Int)) :=
  bif (decide (x45 < (((((c.cells.length : Int) + 1)).toNat : Nat) : Int))) then
   if (0 ≤ x45 ∧ x45 < (((((c.cells.length : Int) + 1)).toNat : Nat) : Int)) ∧ 0 + ((x45).toNat) < o3.length ∧ R64 (x45 + 1) then
    self (.l1 (x45 + 1) (o3.set (0 + ((x45).toNat)) (some ([] : KS))))
   else none
  else
   if ((0 : Int) ≤ 0 ∧ 0 < (((((c.cells.length : Int) + 1)).toNat : Nat) : Int)) ∧ 0 + 0 < o3.length ∧ (o3.getD (0 + 0) none).isSome = true then
    self (.l2 0 lost (o3.set (0 + 0) (some (putK [0, 0] ((o3.getD (0 + 0) none).getD [])))))
   else none
def runsW_l2 (n : Nat) (self : runsWPt → Option (Bool × (List Int))) (c : ConsD) (q : ProbD) (pos : List Int) (ln : Nat) (lost : List Int) (x59 : Int) (o1 : List Int) (o3 : List (Option KS)) : Option (Bool × (List Int)) :=
  bif (decide (x59 < (c.cells.length : Int))) then
   if (o3.getD (0 + ((x59).toNat)) none).isSome = true then
    if (0 ≤ x59 ∧ x59 < (((((c.cells.length : Int) + 1)).toNat : Nat) : Int)) ∧ 0 + ((x59).toNat) < o3.length ∧ (o3.getD (0 + ((x59).toNat)) none).isSome = true then
     self (.l3 x59 x59 o1 o3 (0 + ((x59).toNat)) ((o3.getD (0 + ((x59).toNat)) none).getD []))
    else none
   else none
  else
   bif (decide ((c.runs.length : Int) > 0)) then
    if R64 ((c.runs.length : Int) - 1) ∧ ((0 : Int) ≤ ((c.runs.length : Int) - 1) ∧ ((c.runs.length : Int) - 1) < (c.runs.length : Int)) ∧ R64 ((c.cells.length : Int) - 1) then
     self (.l4 ((c.cells.length : Int) - 1) o1 o3 (putK [((c.runs.length : Int) - 1), c.runs.getD ((((c.runs.length : Int) - 1)).toNat) 0] (putK [(c.runs.length : Int), 0] ([] : KS))))
    else none
   else
    if R64 ((c.cells.length : Int) - 1) then
     self (.l4 ((c.cells.length : Int) - 1) o1 o3 (putK [(c.runs.length : Int), 0] ([] : KS)))
    else none
def runsW_l3 (n : Nat) (self : runsWPt → Option (Bool × (List Int))) (c : ConsD) (q : ProbD) (pos : List Int) (ln : Nat) (lost : List Int) (x8 x59 : Int) (o1 : List Int) (o3 : List (Option KS)) (o3_i : Nat) (o4 : KS) : Option (Bool × (List Int)) :=
  if (o3.getD o3_i none).isSome = true then
   onNext o4 (
    if R64 (x59 + 1) then
     self (.l2 (x59 + 1) o1 o3)
    else none) fun y1 =>
    if (o3.getD o3_i none).isSome = true then
     self (.l5 x8 x59 0 o1 o3 o3_i (y1.getD 0 0) (y1.getD 1 0) (o4.erase y1) y1)
    else none
  else none
def runsW_l4 (n : Nat) (self : runsWPt → Option (Bool × (List Int))) (c : ConsD) (q : ProbD) (pos : List Int) (ln : Nat) (lost : List Int) (x16 : Int) (o1 : List Int) (o3 : List (Option KS)) (o4 : KS) : Option (Bool × (List Int)) :=
  bif (decide (x16 ≥ 0)) then
   if (o3.getD (0 + ((x16).toNat)) none).isSome = true then
    if (0 ≤ x16 ∧ x16 < (((((c.cells.length : Int) + 1)).toNat : Nat) : Int)) ∧ 0 + ((x16).toNat) < o3.length ∧ (o3.getD (0 + ((x16).toNat)) none).isSome = true then
     self (.l6 x16 o1 o3 (0 + ((x16).toNat)) o4 ((o3.getD (0 + ((x16).toNat)) none).getD []))
    else none
   else none
  else
   some (true, o1)
def runsW_l5 (n : Nat) (self : runsWPt → Option (Bool × (List Int))) (c : ConsD) (q : ProbD) (pos : List Int) (ln : Nat) (lost : List Int) (x8 x59 x73 : Int) (o1 : List Int) (o3 : List (Option KS)) (o3_i : Nat) (o4_0 o4_1 : Int) (o5 : KS) (o5_c : List Int) : Option (Bool × (List Int)) :=
  bif (decide (x73 < 2)) then
   if (0 ≤ x73 ∧ x73 < ((2 : Nat) : Int)) ∧ 0 + ((x73).toNat) < ([false, true] : List Bool).length then
    (nextF n (o4_0, o4_1) (([false, true] : List Bool).getD (0 + ((x73).toNat)) false) c q pos ln o1).bind fun y1 =>
     bif y1.2.1 then
      (kindF n x8 (([false, true] : List Bool).getD (0 + ((x73).toNat)) false) c q pos ln y1.2.2).bind fun y2 =>
       bif y2.1 then
        if R64 (x8 + 1) ∧ (0 ≤ (x8 + 1) ∧ (x8 + 1) < (((((c.cells.length : Int) + 1)).toNat : Nat) : Int)) ∧ 0 + (((x8 + 1)).toNat) < o3.length ∧ o3_i ≠ 0 + (((x8 + 1)).toNat) ∧ (o3.getD (0 + (((x8 + 1)).toNat)) none).isSome = true ∧ R64 (x73 + 1) then
         self (.l5 x8 x59 (x73 + 1) y2.2 (o3.set (0 + (((x8 + 1)).toNat)) (some (putK [y1.1.1, y1.1.2] ((o3.getD (0 + (((x8 + 1)).toNat)) none).getD [])))) o3_i o4_0 o4_1 o5 o5_c)
        else none
       else
        if R64 (x73 + 1) then
         self (.l5 x8 x59 (x73 + 1) y2.2 o3 o3_i o4_0 o4_1 o5 o5_c)
        else none
     else
      if R64 (x73 + 1) then
       self (.l5 x8 x59 (x73 + 1) y1.2.2 o3 o3_i o4_0 o4_1 o5 o5_c)
      else none
   else none
  else
   self (.l8 x8 x59 o1 o3 o3_i o5 o5_c)
def runsW_l6 (n : Nat) (self : runsWPt → Option (Bool × (List Int))) (c : ConsD) (q : ProbD) (pos : List Int) (ln : Nat) (lost : List Int) (x16 : Int) (o1 : List Int) (o3 : List (Option KS)) (o3_i : Nat) (o4 o7 : KS) : Option (Bool × (List Int)) :=
  if (o3.getD o3_i none).isSome = true then
   onNext o7 (
    if 0 ≤ x16 ∧ x16 < (c.cells.length : Int) then
     (loseW n (c.cells.getD ((x16).toNat) 0) c.set c q pos ln o1).bind fun y2 =>
      (onlyW n (c.cells.getD ((x16).toNat) 0) c q pos ln y2).bind fun y3 =>
       if R64 (x16 - 1) then
        self (.l4 (x16 - 1) y3 o3 ([] : KS))
       else none
    else none) fun y1 =>
    if (o3.getD o3_i none).isSome = true then
     self (.l7 x16 0 o1 o3 o3_i o4 ([] : KS) false false (y1.getD 0 0) (y1.getD 1 0) (o7.erase y1) y1)
    else none
  else none
def runsW_l7 (n : Nat) (self : runsWPt → Option (Bool × (List Int))) (c : ConsD) (q : ProbD) (pos : List Int) (ln : Nat) (lost : List Int) (x16 x147 : Int) (o1 : List Int) (o3 : List (Option KS)) (o3_i : Nat) (o4 o5 : KS) (o6_0 o6_1 : Bool) (o7_0 o7_1 : Int) (o8 : KS) (o8_c : List Int) : Option (Bool × (List Int)) :=
  bif (decide (x147 < 2)) then
   if (0 ≤ x147 ∧ x147 < ((2 : Nat) : Int)) ∧ 0 + ((x147).toNat) < ([false, true] : List Bool).length then
    (nextF n (o7_0, o7_1) (([false, true] : List Bool).getD (0 + ((x147).toNat)) false) c q pos ln o1).bind fun y1 =>
     bif y1.2.1 then
      (kindF n x16 (([false, true] : List Bool).getD (0 + ((x147).toNat)) false) c q pos ln y1.2.2).bind fun y2 =>
       bif y2.1 then
        bif (o4.contains [y1.1.1, y1.1.2]) then
         bif (x147 == 0) then
          if R64 (x147 + 1) then
           self (.l7 x16 (x147 + 1) y2.2 o3 o3_i o4 (putK [o7_0, o7_1] o5) true o6_1 o7_0 o7_1 o8 o8_c)
          else none
         else
          bif (x147 == 1) then
           if R64 (x147 + 1) then
            self (.l7 x16 (x147 + 1) y2.2 o3 o3_i o4 (putK [o7_0, o7_1] o5) o6_0 true o7_0 o7_1 o8 o8_c)
           else none
          else
           none
        else
         if R64 (x147 + 1) then
          self (.l7 x16 (x147 + 1) y2.2 o3 o3_i o4 o5 o6_0 o6_1 o7_0 o7_1 o8 o8_c)
         else none
       else
        if R64 (x147 + 1) then
         self (.l7 x16 (x147 + 1) y2.2 o3 o3_i o4 o5 o6_0 o6_1 o7_0 o7_1 o8 o8_c)
        else none
     else
      if R64 (x147 + 1) then
       self (.l7 x16 (x147 + 1) y1.2.2 o3 o3_i o4 o5 o6_0 o6_1 o7_0 o7_1 o8 o8_c)
      else none
   else none
  else
   self (.l9 x16 o1 o3 o3_i o4 o5 o6_0 o6_1 o8 o8_c)
def runsW_l8 (n : Nat) (self : runsWPt → Option (Bool × (List Int))) (c : ConsD) (q : ProbD) (pos : List Int) (ln : Nat) (lost : List Int) (x8 x59 : Int) (o1 : List Int) (o3 : List (Option KS)) (o3_i : Nat) (o4 : KS) (o4_c : List Int) : Option (Bool × (List Int)) :=
  if (o3.getD o3_i none).isSome = true then
   onNext o4 (
    if R64 (x59 + 1) then
     self (.l2 (x59 + 1) o1 o3)
    else none) fun y1 =>
    if (o3.getD o3_i none).isSome = true then
     self (.l5 x8 x59 0 o1 o3 o3_i (y1.getD 0 0) (y1.getD 1 0) (o4.erase y1) y1)
    else none
  else none
def runsW_l9 (n : Nat) (self : runsWPt → Option (Bool × (List Int))) (c : ConsD) (q : ProbD) (pos : List Int) (ln : Nat) (lost : List Int) (x16 : Int) (o1 : List Int) (o3 : List (Option KS)) (o3_i : Nat) (o4 o5 : KS) (o6_0 o6_1 : Bool) (o7 : KS) (o7_c : List Int) : Option (Bool × (List Int)) :=
  if (o3.getD o3_i none).isSome = true then
   onNext o7 (
    bif (!o6_1) then
     if 0 ≤ x16 ∧ x16 < (c.cells.length : Int) then
      (loseW n (c.cells.getD ((x16).toNat) 0) c.set c q pos ln o1).bind fun y2 =>
       bif (!o6_0) then
        (onlyW n (c.cells.getD ((x16).toNat) 0) c q pos ln y2).bind fun y3 =>
         if R64 (x16 - 1) then
          self (.l4 (x16 - 1) y3 o3 o5)
         else none
       else
        if R64 (x16 - 1) then
         self (.l4 (x16 - 1) y2 o3 o5)
        else none
     else none
    else
     bif (!o6_0) then
      if 0 ≤ x16 ∧ x16 < (c.cells.length : Int) then
       (onlyW n (c.cells.getD ((x16).toNat) 0) c q pos ln o1).bind fun y2 =>
        if R64 (x16 - 1) then
         self (.l4 (x16 - 1) y2 o3 o5)
        else none
      else none
     else
      if R64 (x16 - 1) then
       self (.l4 (x16 - 1) o1 o3 o5)
      else none) fun y1 =>
    if (o3.getD o3_i none).isSome = true then
     self (.l7 x16 0 o1 o3 o3_i o4 o5 o6_0 o6_1 (y1.getD 0 0) (y1.getD 1 0) (o7.erase y1) y1)
    else none
  else none
def runsW_l0 (n : Nat) (self : runsWPt → Option (Bool × (List Int))) (c : ConsD) (q : ProbD) (pos : List Int) (ln : Nat) (lost : List Int) : Option (Bool × (List Int)) :=
  bif ((c.cells.length : Int) == 0) then
   some (((c.runs.length : Int) == 0), lost)
  else
   if R64 ((c.cells.length : Int) + 1) ∧ ((((c.cells.length : Int) + 1) : Int) = ((c.cells.length : Int) + 1) ∧ (0 : Int) ≤ ((c.cells.length : Int) + 1) ∧ (((c.cells.length : Int) + 1) : Int) ≤ 1000000000000) then
    self (.l1 0 (List.replicate ((((c.cells.length : Int) + 1)).toNat) (none : Option KS)))
   else none
def runsW_m (c : ConsD) (q : ProbD) (pos : List Int) (ln : Nat) (lost : List Int) : Nat → runsWPt → Option (Bool × (List Int))
  | 0, _ => none
  | n + 1, .l1 x45 o3 => runsW_l1 n (runsW_m c q pos ln lost n) c q pos ln lost x45 o3
  | n + 1, .l2 x59 o1 o3 => runsW_l2 n (runsW_m c q pos ln lost n) c q pos ln lost x59 o1 o3
  | n + 1, .l3 x8 x59 o1 o3 o3_i o4 => runsW_l3 n (runsW_m c q pos ln lost n) c q pos ln lost x8 x59 o1 o3 o3_i o4
  | n + 1, .l4 x16 o1 o3 o4 => runsW_l4 n (runsW_m c q pos ln lost n) c q pos ln lost x16 o1 o3 o4
  | n + 1, .l5 x8 x59 x73 o1 o3 o3_i o4_0 o4_1 o5 o5_c => runsW_l5 n (runsW_m c q pos ln lost n) c q pos ln lost x8 x59 x73 o1 o3 o3_i o4_0 o4_1 o5 o5_c
  | n + 1, .l6 x16 o1 o3 o3_i o4 o7 => runsW_l6 n (runsW_m c q pos ln lost n) c q pos ln lost x16 o1 o3 o3_i o4 o7
  | n + 1, .l7 x16 x147 o1 o3 o3_i o4 o5 o6_0 o6_1 o7_0 o7_1 o8 o8_c => runsW_l7 n (runsW_m c q pos ln lost n) c q pos ln lost x16 x147 o1 o3 o3_i o4 o5 o6_0 o6_1 o7_0 o7_1 o8 o8_c
  | n + 1, .l8 x8 x59 o1 o3 o3_i o4 o4_c => runsW_l8 n (runsW_m c q pos ln lost n) c q pos ln lost x8 x59 o1 o3 o3_i o4 o4_c
  | n + 1, .l9 x16 o1 o3 o3_i o4 o5 o6_0 o6_1 o7 o7_c => runsW_l9 n (runsW_m c q pos ln lost n) c q pos ln lost x16 o1 o3 o3_i o4 o5 o6_0 o6_1 o7 o7_c
def runsW (n : Nat) (c : ConsD) (q : ProbD) (pos : List Int) (ln : Nat) (lost : List Int) : Option (Bool × (List Int)) := runsW_l0 n (runsW_m c q pos ln lost n) c q pos ln lost
/-- What the points stand for. -/
def runsW_at (n : Nat) (B : Nat) (N : Yard Tryd.prog GG 2) (c : ConsD) (q : ProbD) (pos : List Int) (ln : Nat) (lost : List Int) (r : Bool × (List Int)) : runsWPt → Prop
  | .l1 x45 o3 => ∀ m0 : Nat, n ≤ m0 → TrK Tryd.prog GG Fence.wide (some B) 2 N (Fin Tryd.prog Tryd.f44 2 (.bool r.1) [some (.cells (consC c ++ probC q ++ [.ints pos, .msl 1 1 0 ln])), some (.ints r.2)]) (toN m0 (atNC (bodyC Tryd.f44) 0 [])) ⟨frm 208 [(1, .ref 2 0), (3, .fn 62 1 (L1 [.ref 2 0])), (4, .i (c.cells.length : Int)), (5, .msl 3 1 0 ((((c.cells.length : Int) + 1)).toNat)), (44, .i (((((c.cells.length : Int) + 1)).toNat : Nat) : Int)), (45, .i x45)], [some (.cells (consC c ++ probC q ++ [.ints pos, .msl 1 1 0 ln])), some (.ints lost), some (.cells [.ref 0 0]), some (.mo (.sets 2 o3 none))]⟩
  | .l2 x59 o1 o3 => ∀ m0 : Nat, n ≤ m0 → TrK Tryd.prog GG Fence.wide (some B) 2 N (Fin Tryd.prog Tryd.f44 2 (.bool r.1) [some (.cells (consC c ++ probC q ++ [.ints pos, .msl 1 1 0 ln])), some (.ints r.2)]) (toN m0 (atNC (bodyC Tryd.f44) 2 [])) ⟨frm 208 [(1, .ref 2 0), (3, .fn 62 1 (L1 [.ref 2 0])), (4, .i (c.cells.length : Int)), (5, .msl 3 1 0 ((((c.cells.length : Int) + 1)).toNat)), (7, .fn 63 1 (L1 [.ref 2 0])), (58, .i (c.cells.length : Int)), (59, .i x59)], [some (.cells (consC c ++ probC q ++ [.ints pos, .msl 1 1 0 ln])), some (.ints o1), some (.cells [.ref 0 0]), some (.mo (.sets 2 o3 none))]⟩
  | .l3 x8 x59 o1 o3 o3_i o4 => ∀ m0 m1 : Nat, n ≤ m0 → n ≤ m1 → ∀ gk : LK, TrK Tryd.prog GG Fence.wide (some B) 2 N (Fin Tryd.prog Tryd.f44 2 (.bool r.1) [some (.cells (consC c ++ probC q ++ [.ints pos, .msl 1 1 0 ln])), some (.ints r.2)]) (toN m1 (atNC (bodyC Tryd.f44) 4 [m0])) ⟨frm 208 [(1, .ref 2 0), (3, .fn 62 1 (L1 [.ref 2 0])), (4, .i (c.cells.length : Int)), (5, .msl 3 1 0 ((((c.cells.length : Int) + 1)).toNat)), (7, .fn 63 1 (L1 [.ref 2 0])), (8, .i x8), (58, .i (c.cells.length : Int)), (59, .i x59), (66, .it 4)], [some (.cells (consC c ++ probC q ++ [.ints pos, .msl 1 1 0 ln])), some (.ints o1), some (.cells [.ref 0 0]), some (.mo (.sets 2 o3 (some (o3_i, gk)))), some (.mo (.mit 2 gk.1 gk.2.1 gk.2.2 o4 none))]⟩
  | .l4 x16 o1 o3 o4 => ∀ m0 : Nat, n ≤ m0 → TrK Tryd.prog GG Fence.wide (some B) 2 N (Fin Tryd.prog Tryd.f44 2 (.bool r.1) [some (.cells (consC c ++ probC q ++ [.ints pos, .msl 1 1 0 ln])), some (.ints r.2)]) (toN m0 (atNC (bodyC Tryd.f44) 8 [])) ⟨frm 208 [(1, .ref 2 0), (3, .fn 62 1 (L1 [.ref 2 0])), (5, .msl 3 1 0 ((((c.cells.length : Int) + 1)).toNat)), (7, .fn 63 1 (L1 [.ref 2 0])), (14, .it 4), (16, .i x16)], [some (.cells (consC c ++ probC q ++ [.ints pos, .msl 1 1 0 ln])), some (.ints o1), some (.cells [.ref 0 0]), some (.mo (.sets 2 o3 none)), some (.mo (.set 2 o4))]⟩
  | .l5 x8 x59 x73 o1 o3 o3_i o4_0 o4_1 o5 o5_c => ∀ m0 m1 m2 : Nat, n ≤ m0 → n ≤ m1 → n ≤ m2 → ∀ gk : LK, TrK Tryd.prog GG Fence.wide (some B) 2 N (Fin Tryd.prog Tryd.f44 2 (.bool r.1) [some (.cells (consC c ++ probC q ++ [.ints pos, .msl 1 1 0 ln])), some (.ints r.2)]) (toN m2 (atNC (bodyC Tryd.f44) 6 [m0, m1])) ⟨frm 208 [(1, .ref 2 0), (3, .fn 62 1 (L1 [.ref 2 0])), (4, .i (c.cells.length : Int)), (5, .msl 3 1 0 ((((c.cells.length : Int) + 1)).toNat)), (7, .fn 63 1 (L1 [.ref 2 0])), (8, .i x8), (9, .ref 4 0), (58, .i (c.cells.length : Int)), (59, .i x59), (66, .it 5), (71, .msl 6 1 0 2), (72, .i 2), (73, .i x73)], [some (.cells (consC c ++ probC q ++ [.ints pos, .msl 1 1 0 ln])), some (.ints o1), some (.cells [.ref 0 0]), some (.mo (.sets 2 o3 (some (o3_i, gk)))), some (.cells [.i o4_0, .i o4_1]), some (.mo (.mit 2 gk.1 gk.2.1 gk.2.2 o5 (some o5_c))), some (.bools ([false, true] : List Bool))]⟩
  | .l6 x16 o1 o3 o3_i o4 o7 => ∀ m0 m1 : Nat, n ≤ m0 → n ≤ m1 → ∀ gk : LK, TrK Tryd.prog GG Fence.wide (some B) 2 N (Fin Tryd.prog Tryd.f44 2 (.bool r.1) [some (.cells (consC c ++ probC q ++ [.ints pos, .msl 1 1 0 ln])), some (.ints r.2)]) (toN m1 (atNC (bodyC Tryd.f44) 10 [m0])) ⟨frm 208 [(1, .ref 2 0), (3, .fn 62 1 (L1 [.ref 2 0])), (5, .msl 3 1 0 ((((c.cells.length : Int) + 1)).toNat)), (7, .fn 63 1 (L1 [.ref 2 0])), (14, .it 4), (16, .i x16), (17, .it 5), (18, .ref 6 0), (140, .it 7)], [some (.cells (consC c ++ probC q ++ [.ints pos, .msl 1 1 0 ln])), some (.ints o1), some (.cells [.ref 0 0]), some (.mo (.sets 2 o3 (some (o3_i, gk)))), some (.mo (.set 2 o4)), some (.mo (.set 2 ([] : KS))), some (.cells [.bool false, .bool false]), some (.mo (.mit 2 gk.1 gk.2.1 gk.2.2 o7 none))]⟩
  | .l7 x16 x147 o1 o3 o3_i o4 o5 o6_0 o6_1 o7_0 o7_1 o8 o8_c => ∀ m0 m1 m2 : Nat, n ≤ m0 → n ≤ m1 → n ≤ m2 → ∀ gk : LK, TrK Tryd.prog GG Fence.wide (some B) 2 N (Fin Tryd.prog Tryd.f44 2 (.bool r.1) [some (.cells (consC c ++ probC q ++ [.ints pos, .msl 1 1 0 ln])), some (.ints r.2)]) (toN m2 (atNC (bodyC Tryd.f44) 12 [m0, m1])) ⟨frm 208 [(1, .ref 2 0), (3, .fn 62 1 (L1 [.ref 2 0])), (5, .msl 3 1 0 ((((c.cells.length : Int) + 1)).toNat)), (7, .fn 63 1 (L1 [.ref 2 0])), (14, .it 4), (16, .i x16), (17, .it 5), (18, .ref 6 0), (19, .ref 7 0), (140, .it 8), (145, .msl 9 1 0 2), (146, .i 2), (147, .i x147)], [some (.cells (consC c ++ probC q ++ [.ints pos, .msl 1 1 0 ln])), some (.ints o1), some (.cells [.ref 0 0]), some (.mo (.sets 2 o3 (some (o3_i, gk)))), some (.mo (.set 2 o4)), some (.mo (.set 2 o5)), some (.cells [.bool o6_0, .bool o6_1]), some (.cells [.i o7_0, .i o7_1]), some (.mo (.mit 2 gk.1 gk.2.1 gk.2.2 o8 (some o8_c))), some (.bools ([false, true] : List Bool))]⟩
  | .l8 x8 x59 o1 o3 o3_i o4 o4_c => ∀ m0 m1 : Nat, n ≤ m0 → n ≤ m1 → ∀ gk : LK, TrK Tryd.prog GG Fence.wide (some B) 2 N (Fin Tryd.prog Tryd.f44 2 (.bool r.1) [some (.cells (consC c ++ probC q ++ [.ints pos, .msl 1 1 0 ln])), some (.ints r.2)]) (toN m1 (atNC (bodyC Tryd.f44) 4 [m0])) ⟨frm 208 [(1, .ref 2 0), (3, .fn 62 1 (L1 [.ref 2 0])), (4, .i (c.cells.length : Int)), (5, .msl 3 1 0 ((((c.cells.length : Int) + 1)).toNat)), (7, .fn 63 1 (L1 [.ref 2 0])), (8, .i x8), (58, .i (c.cells.length : Int)), (59, .i x59), (66, .it 4)], [some (.cells (consC c ++ probC q ++ [.ints pos, .msl 1 1 0 ln])), some (.ints o1), some (.cells [.ref 0 0]), some (.mo (.sets 2 o3 (some (o3_i, gk)))), some (.mo (.mit 2 gk.1 gk.2.1 gk.2.2 o4 (some o4_c)))]⟩
  | .l9 x16 o1 o3 o3_i o4 o5 o6_0 o6_1 o7 o7_c => ∀ m0 m1 : Nat, n ≤ m0 → n ≤ m1 → ∀ gk : LK, TrK Tryd.prog GG Fence.wide (some B) 2 N (Fin Tryd.prog Tryd.f44 2 (.bool r.1) [some (.cells (consC c ++ probC q ++ [.ints pos, .msl 1 1 0 ln])), some (.ints r.2)]) (toN m1 (atNC (bodyC Tryd.f44) 10 [m0])) ⟨frm 208 [(1, .ref 2 0), (3, .fn 62 1 (L1 [.ref 2 0])), (5, .msl 3 1 0 ((((c.cells.length : Int) + 1)).toNat)), (7, .fn 63 1 (L1 [.ref 2 0])), (14, .it 4), (16, .i x16), (17, .it 5), (18, .ref 6 0), (140, .it 7)], [some (.cells (consC c ++ probC q ++ [.ints pos, .msl 1 1 0 ln])), some (.ints o1), some (.cells [.ref 0 0]), some (.mo (.sets 2 o3 (some (o3_i, gk)))), some (.mo (.set 2 o4)), some (.mo (.set 2 o5)), some (.cells [.bool o6_0, .bool o6_1]), some (.mo (.mit 2 gk.1 gk.2.1 gk.2.2 o7 (some o7_c)))]⟩
theorem runsW_all (B : Nat) (N : Yard Tryd.prog GG 2) (c : ConsD) (q : ProbD) (pos : List Int) (ln : Nat) (lost : List Int) : ∀ (n : Nat) (pt : runsWPt) (r : Bool × (List Int)), runsW_m c q pos ln lost n pt = some r → runsW_at n B N c q pos ln lost r pt := by
  intro n; induction n with
  | zero => intro _ _ h; cases h
  | succ n hself =>
   intro pt r h
   cases pt
   case l1 x45 o3 =>
    have h : runsW_l1 n (runsW_m c q pos ln lost n) c q pos ln lost x45 o3 = some r := h
    intro m0 hm0
    refine rd hm0 fun m0 hm0 => ?_
    unfold runsW_l1 at h
    rcases bifSome h with ⟨c0, h⟩ | ⟨c0, h⟩
    · obtain ⟨⟨g0, g1, g2⟩, h⟩ := guardSome h
      exact gg sch_runsW [0, 1, 2, 5] (H0.b 46 c0 |>.g g0 |>.g g1 |>.w 52 g2) (hself _ _ h m0 hm0)
    · obtain ⟨⟨g0, g1, g2⟩, h⟩ := guardSome h
      exact gg sch_runsW [0, 1, 2, 3] (H0.b 46 c0 |>.g g0 |>.g g1 |>.g g2 |>.g (lkOff_none (i := 0 + 0))) (en n (hself _ _ h n (Nat.le_refl _)))
   case l2 x59 o1 o3 =>
    have h : runsW_l2 n (runsW_m c q pos ln lost n) c q pos ln lost x59 o1 o3 = some r := h
    intro m0 hm0
    refine rd hm0 fun m0 hm0 => ?_
    unfold runsW_l2 at h
    rcases bifSome h with ⟨c0, h⟩ | ⟨c0, h⟩
    · obtain ⟨g0, h⟩ := guardSome h
      refine gs (stopAt 16 sch_runsW) [0, 1, 2, 3] (H0.b 60 c0) (atGC (bodyC Tryd.f44) 16 [m0]) (frm 208 [(1, .ref 2 0), (3, .fn 62 1 (L1 [.ref 2 0])), (4, .i (c.cells.length : Int)), (5, .msl 3 1 0 ((((c.cells.length : Int) + 1)).toNat)), (7, .fn 63 1 (L1 [.ref 2 0])), (8, .i x59), (58, .i (c.cells.length : Int)), (59, .i x59)]) (hp_runsW_0 c q pos ln o1 o3) ?_
      refine TrK.lock 3 (0 + ((x59).toNat)) 2 (by kernel_rfl) g0 (by kernel_rfl) (fun gk => (hp_runsW_1 c q pos ln o1 o3 x59 gk)) (by kernel_rfl) fun gk => ?_
      obtain ⟨⟨g1, g2, g3⟩, h⟩ := guardSome h
      exact gg sch_runsW [0, 1, 2, 3, 4] (H0.g g1 |>.g g2 |>.g g3 |>.g (Eq.refl (0 + ((x59).toNat)))) (en n (hself _ _ h m0 n hm0 (Nat.le_refl _) gk))
    · have p := H0.b 60 c0
      rcases bifSome h with ⟨c1, h⟩ | ⟨c1, h⟩
      · obtain ⟨⟨g0, g1, g2⟩, h⟩ := guardSome h
        exact gg sch_runsW [0, 1, 2, 3, 4] (p.b 115 c1 |>.w 118 g0 |>.w 125 g0 |>.g g1 |>.w 130 g2) (en n (hself _ _ h n (Nat.le_refl _)))
      · obtain ⟨g0, h⟩ := guardSome h
        exact gg sch_runsW [0, 1, 2, 3, 4] (p.b 115 c1 |>.w 130 g0) (en n (hself _ _ h n (Nat.le_refl _)))
   case l3 x8 x59 o1 o3 o3_i o4 =>
    have h : runsW_l3 n (runsW_m c q pos ln lost n) c q pos ln lost x8 x59 o1 o3 o3_i o4 = some r := h
    intro m0 m1 hm0 hm1
    intro gk
    have hm0 := Nat.le_of_succ_le hm0
    refine rd hm1 fun m1 hm1 => ?_
    unfold runsW_l3 at h
    refine gs (stopAt 17 sch_runsW) [0, 1, 2, 3, 4] H0 (atGC (bodyC Tryd.f44) 17 [m0, m1]) (frm 208 [(1, .ref 2 0), (3, .fn 62 1 (L1 [.ref 2 0])), (4, .i (c.cells.length : Int)), (5, .msl 3 1 0 ((((c.cells.length : Int) + 1)).toNat)), (7, .fn 63 1 (L1 [.ref 2 0])), (8, .i x8), (58, .i (c.cells.length : Int)), (59, .i x59), (66, .it 4)]) (hp_runsW_2 c q pos ln o1 o3 o3_i gk o4) ?_
    obtain ⟨g0, h⟩ := guardSome h
    have h := onNext_spec h
    refine TrG.nx (ops := regF Tryd.f44 17) HC.x (by kernel_rfl) (by kernel_rfl) 4 3 o3_i 2 o3 gk o4 none [1, 3, 4, 5, 7, 8, 58, 59, 66, 68] [0, 1, 2, 3] (frm 208 [(1, .ref 2 0), (3, .fn 62 1 (L1 [.ref 2 0])), (4, .i (c.cells.length : Int)), (5, .msl 3 1 0 ((((c.cells.length : Int) + 1)).toNat)), (7, .fn 63 1 (L1 [.ref 2 0])), (8, .i x8), (58, .i (c.cells.length : Int)), (59, .i x59), (68, .bool false)]) (hp_runsW_0 c q pos ln o1 o3) [0, 1, 2, 3, 4] (fun y1 => frm 208 [(1, .ref 2 0), (3, .fn 62 1 (L1 [.ref 2 0])), (4, .i (c.cells.length : Int)), (5, .msl 3 1 0 ((((c.cells.length : Int) + 1)).toNat)), (7, .fn 63 1 (L1 [.ref 2 0])), (8, .i x8), (58, .i (c.cells.length : Int)), (59, .i x59), (66, .it 4), (68, .bool true)]) (fun y1 => (hp_runsW_3 c q pos ln o1 o3 o3_i gk o4 y1)) (by kernel_rfl) (by kernel_rfl) (by kernel_rfl) (by decide) g0 (by kernel_rfl) (by kernel_rfl) (fun _ => by kernel_rfl) (fun he => ?_) (fun y1 he => ?_)
    · replace h := h.1 he
      obtain ⟨g1, h⟩ := guardSome h
      exact gg sch_runsW [0, 1, 2, 3] (H0.w 98 g1) (hself _ _ h m0 hm0)
    · replace h := h.2 y1 he
      obtain ⟨g1, h⟩ := guardSome h
      exact gg sch_runsW [0, 1, 2, 3, 5, 4, 6] (H0.g g1 |>.g (Eq.refl gk.1) |>.g (Eq.refl gk.2.1) |>.g (Eq.refl gk.2.2) |>.t) (en n (hself _ _ h m0 m1 n hm0 hm1 (Nat.le_refl _) gk))
   case l4 x16 o1 o3 o4 =>
    have h : runsW_l4 n (runsW_m c q pos ln lost n) c q pos ln lost x16 o1 o3 o4 = some r := h
    intro m0 hm0
    refine rd hm0 fun m0 hm0 => ?_
    unfold runsW_l4 at h
    rcases bifSome h with ⟨c0, h⟩ | ⟨c0, h⟩
    · obtain ⟨g0, h⟩ := guardSome h
      refine gs (stopAt 36 sch_runsW) [0, 1, 2, 3, 4, 5, 6] (H0.b 132 c0) (atGC (bodyC Tryd.f44) 36 [m0]) (frm 208 [(1, .ref 2 0), (3, .fn 62 1 (L1 [.ref 2 0])), (5, .msl 3 1 0 ((((c.cells.length : Int) + 1)).toNat)), (7, .fn 63 1 (L1 [.ref 2 0])), (14, .it 4), (16, .i x16), (17, .it 5), (18, .ref 6 0)]) (hp_runsW_4 c q pos ln o1 o3 o4) ?_
      refine TrK.lock 3 (0 + ((x16).toNat)) 2 (by kernel_rfl) g0 (by kernel_rfl) (fun gk => (hp_runsW_5 c q pos ln o1 o3 x16 gk o4)) (by kernel_rfl) fun gk => ?_
      obtain ⟨⟨g1, g2, g3⟩, h⟩ := guardSome h
      exact gg sch_runsW [0, 1, 2, 3, 4, 5, 6, 7] (H0.g g1 |>.g g2 |>.g g3 |>.g (Eq.refl (0 + ((x16).toNat)))) (en n (hself _ _ h m0 n hm0 (Nat.le_refl _) gk))
    · cases h
      exact ee sch_runsW [2] [0, 1] (H0.b 132 c0)
   case l5 x8 x59 x73 o1 o3 o3_i o4_0 o4_1 o5 o5_c =>
    have h : runsW_l5 n (runsW_m c q pos ln lost n) c q pos ln lost x8 x59 x73 o1 o3 o3_i o4_0 o4_1 o5 o5_c = some r := h
    intro m0 m1 m2 hm0 hm1 hm2
    intro gk
    have hm0 := Nat.le_of_succ_le hm0
    have hm1 := Nat.le_of_succ_le hm1
    refine rd hm2 fun m2 hm2 => ?_
    unfold runsW_l5 at h
    rcases bifSome h with ⟨c0, h⟩ | ⟨c0, h⟩
    · obtain ⟨⟨g0, g1⟩, h⟩ := guardSome h
      obtain ⟨y1, hy1, h⟩ := bindSome h
      have p := H0.b 74 c0 |>.g g0 |>.g g1 |>.c (em (nextF_ok hy1) [2, 0, 1] (hp_runsW_6 c q pos ln o1 o3 o3_i gk o4_0 o4_1 o5 o5_c)) |>.t
      rcases bifSome h with ⟨c1, h⟩ | ⟨c1, h⟩
      · obtain ⟨y2, hy2, h⟩ := bindSome h
        have p := H0.b 74 c0 |>.g g0 |>.g g1 |>.c (em (nextF_ok hy1) [2, 0, 1] (hp_runsW_6 c q pos ln o1 o3 o3_i gk o4_0 o4_1 o5 o5_c)) |>.b 83 c1 |>.t |>.c (em (kindF_ok hy2) [2, 0, 1] (hp_runsW_7 c q pos ln y1 o3 o3_i gk o4_0 o4_1 o5 o5_c))
        rcases bifSome h with ⟨c2, h⟩ | ⟨c2, h⟩
        · obtain ⟨⟨g2, g3, g4, g5, g6, g7⟩, h⟩ := guardSome h
          exact gg sch_runsW [0, 1, 2, 3, 4, 5, 6] (p.b 89 c2 |>.g s_runsW_24 |>.w 93 g2 |>.g g3 |>.g g4 |>.g g6 |>.g (lkOff_some (g := gk) g5) |>.w 97 g7) (hself _ _ h m0 m1 m2 hm0 hm1 hm2 gk)
        · obtain ⟨g2, h⟩ := guardSome h
          exact gg sch_runsW [0, 1, 2, 3, 4, 5, 6] (p.b 89 c2 |>.w 97 g2) (hself _ _ h m0 m1 m2 hm0 hm1 hm2 gk)
      · obtain ⟨g2, h⟩ := guardSome h
        exact gg sch_runsW [0, 1, 2, 3, 4, 5, 6] (H0.b 74 c0 |>.g g0 |>.g g1 |>.c (em (nextF_ok hy1) [2, 0, 1] (hp_runsW_6 c q pos ln o1 o3 o3_i gk o4_0 o4_1 o5 o5_c)) |>.b 83 c1 |>.t |>.w 97 g2) (hself _ _ h m0 m1 m2 hm0 hm1 hm2 gk)
    · exact gg sch_runsW [0, 1, 2, 3, 5] (H0.b 74 c0) (hself _ _ h m0 m1 hm0 hm1 gk)
   case l6 x16 o1 o3 o3_i o4 o7 =>
    have h : runsW_l6 n (runsW_m c q pos ln lost n) c q pos ln lost x16 o1 o3 o3_i o4 o7 = some r := h
    intro m0 m1 hm0 hm1
    intro gk
    have hm0 := Nat.le_of_succ_le hm0
    refine rd hm1 fun m1 hm1 => ?_
    unfold runsW_l6 at h
    refine gs (stopAt 37 sch_runsW) [0, 1, 2, 3, 4, 5, 6, 7] H0 (atGC (bodyC Tryd.f44) 37 [m0, m1]) (frm 208 [(1, .ref 2 0), (3, .fn 62 1 (L1 [.ref 2 0])), (5, .msl 3 1 0 ((((c.cells.length : Int) + 1)).toNat)), (7, .fn 63 1 (L1 [.ref 2 0])), (14, .it 4), (16, .i x16), (17, .it 5), (18, .ref 6 0), (140, .it 7)]) (hp_runsW_8 c q pos ln o1 o3 o3_i gk o4 o7) ?_
    obtain ⟨g0, h⟩ := guardSome h
    have h := onNext_spec h
    refine TrG.nx (ops := regF Tryd.f44 37) HC.x (by kernel_rfl) (by kernel_rfl) 7 3 o3_i 2 o3 gk o7 none [1, 3, 5, 7, 14, 16, 17, 18, 140, 142] [0, 1, 2, 3, 4, 5, 6] (frm 208 [(1, .ref 2 0), (3, .fn 62 1 (L1 [.ref 2 0])), (5, .msl 3 1 0 ((((c.cells.length : Int) + 1)).toNat)), (7, .fn 63 1 (L1 [.ref 2 0])), (14, .it 4), (16, .i x16), (17, .it 5), (18, .ref 6 0), (142, .bool false)]) (hp_runsW_4 c q pos ln o1 o3 o4) [0, 1, 2, 3, 4, 5, 6, 7] (fun y1 => frm 208 [(1, .ref 2 0), (3, .fn 62 1 (L1 [.ref 2 0])), (5, .msl 3 1 0 ((((c.cells.length : Int) + 1)).toNat)), (7, .fn 63 1 (L1 [.ref 2 0])), (14, .it 4), (16, .i x16), (17, .it 5), (18, .ref 6 0), (140, .it 7), (142, .bool true)]) (fun y1 => (hp_runsW_12 c q pos ln o1 o3 o3_i gk o4 o7 y1)) (by kernel_rfl) (by kernel_rfl) (by kernel_rfl) (by decide) g0 (by kernel_rfl) (by kernel_rfl) (fun _ => by kernel_rfl) (fun he => ?_) (fun y1 he => ?_)
    · replace h := h.1 he
      obtain ⟨g1, h⟩ := guardSome h
      obtain ⟨y2, hy2, h⟩ := bindSome h
      obtain ⟨y3, hy3, h⟩ := bindSome h
      obtain ⟨g2, h⟩ := guardSome h
      exact gg (tg := [([], (tgt_runsW_9 c x16 q pos ln y2 o3 o4)), ([], (tgt_runsW_11 c x16 q pos ln y3 o3 o4))]) sch_runsW [0, 1, 2, 3, 5] (H0.g (by decide : (0 : Int) ≤ 1 ∧ 1 < ((2 : Nat) : Int)) |>.g s_runsW_49 |>.g g1 |>.c (em (loseW_ok hy2) [0, 1] (hp_runsW_4 c q pos ln o1 o3 o4)) |>.g (Eq.refl (tgt_runsW_9 c x16 q pos ln y2 o3 o4)) |>.g (by decide : (0 : Int) ≤ 0 ∧ 0 < ((2 : Nat) : Int)) |>.g s_runsW_51 |>.g g1 |>.c (em (onlyW_ok hy3) [0, 1] (hp_runsW_10 c q pos ln y2 o3 o4)) |>.g (Eq.refl (tgt_runsW_11 c x16 q pos ln y3 o3 o4)) |>.w 134 g2) (hself _ _ h m0 hm0)
    · replace h := h.2 y1 he
      obtain ⟨g1, h⟩ := guardSome h
      exact gg sch_runsW [0, 1, 2, 3, 4, 5, 6, 8, 7, 9] (H0.g g1 |>.g (Eq.refl gk.1) |>.g (Eq.refl gk.2.1) |>.g (Eq.refl gk.2.2) |>.t) (en n (hself _ _ h m0 m1 n hm0 hm1 (Nat.le_refl _) gk))
   case l7 x16 x147 o1 o3 o3_i o4 o5 o6_0 o6_1 o7_0 o7_1 o8 o8_c =>
    have h : runsW_l7 n (runsW_m c q pos ln lost n) c q pos ln lost x16 x147 o1 o3 o3_i o4 o5 o6_0 o6_1 o7_0 o7_1 o8 o8_c = some r := h
    intro m0 m1 m2 hm0 hm1 hm2
    intro gk
    have hm0 := Nat.le_of_succ_le hm0
    have hm1 := Nat.le_of_succ_le hm1
    refine rd hm2 fun m2 hm2 => ?_
    unfold runsW_l7 at h
    rcases bifSome h with ⟨c0, h⟩ | ⟨c0, h⟩
    · obtain ⟨⟨g0, g1⟩, h⟩ := guardSome h
      obtain ⟨y1, hy1, h⟩ := bindSome h
      have p := H0.b 148 c0 |>.g g0 |>.g g1 |>.c (em (nextF_ok hy1) [2, 0, 1] (hp_runsW_13 c q pos ln o1 o3 o3_i gk o4 o5 o6_0 o6_1 o7_0 o7_1 o8 o8_c)) |>.t
      rcases bifSome h with ⟨c1, h⟩ | ⟨c1, h⟩
      · obtain ⟨y2, hy2, h⟩ := bindSome h
        have p := H0.b 148 c0 |>.g g0 |>.g g1 |>.c (em (nextF_ok hy1) [2, 0, 1] (hp_runsW_13 c q pos ln o1 o3 o3_i gk o4 o5 o6_0 o6_1 o7_0 o7_1 o8 o8_c)) |>.b 158 c1 |>.t |>.c (em (kindF_ok hy2) [2, 0, 1] (hp_runsW_14 c q pos ln y1 o3 o3_i gk o4 o5 o6_0 o6_1 o7_0 o7_1 o8 o8_c))
        rcases bifSome h with ⟨c2, h⟩ | ⟨c2, h⟩
        · have p := p.b 164 c2
          rcases bifSome h with ⟨c3, h⟩ | ⟨c3, h⟩
          · have p := p.b 169 c3
            rcases bifSome h with ⟨c4, h⟩ | ⟨c4, h⟩
            · obtain ⟨g2, h⟩ := guardSome h
              exact gg sch_runsW [0, 1, 2, 3, 4, 5, 6, 7, 8, 9] (H0.b 148 c0 |>.o 149 (DLe.int (k := .i64) (eq_of_beq c4)) |>.g g0 |>.g g1 |>.c (em (nextF_ok hy1) [2, 0, 1] (hp_runsW_13 c q pos ln o1 o3 o3_i gk o4 o5 o6_0 o6_1 o7_0 o7_1 o8 o8_c)) |>.b 158 c1 |>.t |>.c (em (kindF_ok hy2) [2, 0, 1] (hp_runsW_14 c q pos ln y1 o3 o3_i gk o4 o5 o6_0 o6_1 o7_0 o7_1 o8 o8_c)) |>.b 164 c2 |>.b 169 c3 |>.g (by decide : (0 : Int) ≤ 0 ∧ 0 < ((2 : Nat) : Int)) |>.t |>.w 175 g2) (hself _ _ h m0 m1 m2 hm0 hm1 hm2 gk)
            · rcases bifSome h with ⟨c6, h⟩ | ⟨c6, h⟩
              · obtain ⟨g2, h⟩ := guardSome h
                exact gg sch_runsW [0, 1, 2, 3, 4, 5, 6, 7, 8, 9] (H0.b 148 c0 |>.o 149 (DLe.int (k := .i64) (eq_of_beq c6)) |>.g g0 |>.g g1 |>.c (em (nextF_ok hy1) [2, 0, 1] (hp_runsW_13 c q pos ln o1 o3 o3_i gk o4 o5 o6_0 o6_1 o7_0 o7_1 o8 o8_c)) |>.b 158 c1 |>.t |>.c (em (kindF_ok hy2) [2, 0, 1] (hp_runsW_14 c q pos ln y1 o3 o3_i gk o4 o5 o6_0 o6_1 o7_0 o7_1 o8 o8_c)) |>.b 164 c2 |>.b 169 c3 |>.g (by decide : (0 : Int) ≤ 1 ∧ 1 < ((2 : Nat) : Int)) |>.t |>.w 175 g2) (hself _ _ h m0 m1 m2 hm0 hm1 hm2 gk)
              · cases h
          · obtain ⟨g2, h⟩ := guardSome h
            exact gg sch_runsW [0, 1, 2, 3, 4, 5, 6, 7, 8, 9] (p.b 169 c3 |>.w 175 g2) (hself _ _ h m0 m1 m2 hm0 hm1 hm2 gk)
        · obtain ⟨g2, h⟩ := guardSome h
          exact gg sch_runsW [0, 1, 2, 3, 4, 5, 6, 7, 8, 9] (p.b 164 c2 |>.w 175 g2) (hself _ _ h m0 m1 m2 hm0 hm1 hm2 gk)
      · obtain ⟨g2, h⟩ := guardSome h
        exact gg sch_runsW [0, 1, 2, 3, 4, 5, 6, 7, 8, 9] (H0.b 148 c0 |>.g g0 |>.g g1 |>.c (em (nextF_ok hy1) [2, 0, 1] (hp_runsW_13 c q pos ln o1 o3 o3_i gk o4 o5 o6_0 o6_1 o7_0 o7_1 o8 o8_c)) |>.b 158 c1 |>.t |>.w 175 g2) (hself _ _ h m0 m1 m2 hm0 hm1 hm2 gk)
    · exact gg sch_runsW [0, 1, 2, 3, 4, 5, 6, 8] (H0.b 148 c0) (hself _ _ h m0 m1 hm0 hm1 gk)
   case l8 x8 x59 o1 o3 o3_i o4 o4_c =>
    have h : runsW_l8 n (runsW_m c q pos ln lost n) c q pos ln lost x8 x59 o1 o3 o3_i o4 o4_c = some r := h
    intro m0 m1 hm0 hm1
    intro gk
    have hm0 := Nat.le_of_succ_le hm0
    refine rd hm1 fun m1 hm1 => ?_
    unfold runsW_l8 at h
    refine gs (stopAt 17 sch_runsW) [0, 1, 2, 3, 4] H0 (atGC (bodyC Tryd.f44) 17 [m0, m1]) (frm 208 [(1, .ref 2 0), (3, .fn 62 1 (L1 [.ref 2 0])), (4, .i (c.cells.length : Int)), (5, .msl 3 1 0 ((((c.cells.length : Int) + 1)).toNat)), (7, .fn 63 1 (L1 [.ref 2 0])), (8, .i x8), (58, .i (c.cells.length : Int)), (59, .i x59), (66, .it 4)]) (hp_runsW_15 c q pos ln o1 o3 o3_i gk o4 o4_c) ?_
    obtain ⟨g0, h⟩ := guardSome h
    have h := onNext_spec h
    refine TrG.nx (ops := regF Tryd.f44 17) HC.x (by kernel_rfl) (by kernel_rfl) 4 3 o3_i 2 o3 gk o4 (some o4_c) [1, 3, 4, 5, 7, 8, 58, 59, 66, 68] [0, 1, 2, 3] (frm 208 [(1, .ref 2 0), (3, .fn 62 1 (L1 [.ref 2 0])), (4, .i (c.cells.length : Int)), (5, .msl 3 1 0 ((((c.cells.length : Int) + 1)).toNat)), (7, .fn 63 1 (L1 [.ref 2 0])), (8, .i x8), (58, .i (c.cells.length : Int)), (59, .i x59), (68, .bool false)]) (hp_runsW_0 c q pos ln o1 o3) [0, 1, 2, 3, 4] (fun y1 => frm 208 [(1, .ref 2 0), (3, .fn 62 1 (L1 [.ref 2 0])), (4, .i (c.cells.length : Int)), (5, .msl 3 1 0 ((((c.cells.length : Int) + 1)).toNat)), (7, .fn 63 1 (L1 [.ref 2 0])), (8, .i x8), (58, .i (c.cells.length : Int)), (59, .i x59), (66, .it 4), (68, .bool true)]) (fun y1 => (hp_runsW_3 c q pos ln o1 o3 o3_i gk o4 y1)) (by kernel_rfl) (by kernel_rfl) (by kernel_rfl) (by decide) g0 (by kernel_rfl) (by kernel_rfl) (fun _ => by kernel_rfl) (fun he => ?_) (fun y1 he => ?_)
    · replace h := h.1 he
      obtain ⟨g1, h⟩ := guardSome h
      exact gg sch_runsW [0, 1, 2, 3] (H0.w 98 g1) (hself _ _ h m0 hm0)
    · replace h := h.2 y1 he
      obtain ⟨g1, h⟩ := guardSome h
      exact gg sch_runsW [0, 1, 2, 3, 5, 4, 6] (H0.g g1 |>.g (Eq.refl gk.1) |>.g (Eq.refl gk.2.1) |>.g (Eq.refl gk.2.2) |>.t) (en n (hself _ _ h m0 m1 n hm0 hm1 (Nat.le_refl _) gk))
   case l9 x16 o1 o3 o3_i o4 o5 o6_0 o6_1 o7 o7_c =>
    have h : runsW_l9 n (runsW_m c q pos ln lost n) c q pos ln lost x16 o1 o3 o3_i o4 o5 o6_0 o6_1 o7 o7_c = some r := h
    intro m0 m1 hm0 hm1
    intro gk
    have hm0 := Nat.le_of_succ_le hm0
    refine rd hm1 fun m1 hm1 => ?_
    unfold runsW_l9 at h
    refine gs (stopAt 37 sch_runsW) [0, 1, 2, 3, 4, 5, 6, 7] H0 (atGC (bodyC Tryd.f44) 37 [m0, m1]) (frm 208 [(1, .ref 2 0), (3, .fn 62 1 (L1 [.ref 2 0])), (5, .msl 3 1 0 ((((c.cells.length : Int) + 1)).toNat)), (7, .fn 63 1 (L1 [.ref 2 0])), (14, .it 4), (16, .i x16), (17, .it 5), (18, .ref 6 0), (140, .it 7)]) (hp_runsW_16 c q pos ln o1 o3 o3_i gk o4 o5 o6_0 o6_1 o7 o7_c) ?_
    obtain ⟨g0, h⟩ := guardSome h
    have h := onNext_spec h
    refine TrG.nx (ops := regF Tryd.f44 37) HC.x (by kernel_rfl) (by kernel_rfl) 7 3 o3_i 2 o3 gk o7 (some o7_c) [1, 3, 5, 7, 14, 16, 17, 18, 140, 142] [0, 1, 2, 3, 4, 5, 6] (frm 208 [(1, .ref 2 0), (3, .fn 62 1 (L1 [.ref 2 0])), (5, .msl 3 1 0 ((((c.cells.length : Int) + 1)).toNat)), (7, .fn 63 1 (L1 [.ref 2 0])), (14, .it 4), (16, .i x16), (17, .it 5), (18, .ref 6 0), (142, .bool false)]) (hp_runsW_17 c q pos ln o1 o3 o4 o5 o6_0 o6_1) [0, 1, 2, 3, 4, 5, 6, 7] (fun y1 => frm 208 [(1, .ref 2 0), (3, .fn 62 1 (L1 [.ref 2 0])), (5, .msl 3 1 0 ((((c.cells.length : Int) + 1)).toNat)), (7, .fn 63 1 (L1 [.ref 2 0])), (14, .it 4), (16, .i x16), (17, .it 5), (18, .ref 6 0), (140, .it 7), (142, .bool true)]) (fun y1 => (hp_runsW_22 c q pos ln o1 o3 o3_i gk o4 o5 o6_0 o6_1 o7 y1)) (by kernel_rfl) (by kernel_rfl) (by kernel_rfl) (by decide) g0 (by kernel_rfl) (by kernel_rfl) (fun _ => by kernel_rfl) (fun he => ?_) (fun y1 he => ?_)
    · replace h := h.1 he
      have p := H0.g (by decide : (0 : Int) ≤ 1 ∧ 1 < ((2 : Nat) : Int))
      rcases bifSome h with ⟨c0, h⟩ | ⟨c0, h⟩
      · obtain ⟨g1, h⟩ := guardSome h
        obtain ⟨y2, hy2, h⟩ := bindSome h
        have p := p.b 179 c0 |>.g s_runsW_49 |>.g g1 |>.c (em (loseW_ok hy2) [0, 1] (hp_runsW_17 c q pos ln o1 o3 o4 o5 o6_0 o6_1)) |>.g (Eq.refl (tgt_runsW_18 c x16 q pos ln y2 o3 o4 o5 o6_0 o6_1)) |>.g (by decide : (0 : Int) ≤ 0 ∧ 0 < ((2 : Nat) : Int))
        rcases bifSome h with ⟨c1, h⟩ | ⟨c1, h⟩
        · obtain ⟨y3, hy3, h⟩ := bindSome h
          obtain ⟨g2, h⟩ := guardSome h
          exact gg (tg := [([], (tgt_runsW_18 c x16 q pos ln y2 o3 o4 o5 o6_0 o6_1)), ([], (tgt_runsW_20 c x16 q pos ln y3 o3 o4 o5 o6_0 o6_1))]) sch_runsW [0, 1, 2, 3, 5] (p.b 197 c1 |>.g s_runsW_51 |>.g g1 |>.c (em (onlyW_ok hy3) [0, 1] (hp_runsW_19 c q pos ln y2 o3 o4 o5 o6_0 o6_1)) |>.g (Eq.refl (tgt_runsW_20 c x16 q pos ln y3 o3 o4 o5 o6_0 o6_1)) |>.w 134 g2) (hself _ _ h m0 hm0)
        · obtain ⟨g2, h⟩ := guardSome h
          exact gg (tg := [([], (tgt_runsW_18 c x16 q pos ln y2 o3 o4 o5 o6_0 o6_1))]) sch_runsW [0, 1, 2, 3, 5] (p.b 197 c1 |>.w 134 g2) (hself _ _ h m0 hm0)
      · have p := p.b 179 c0 |>.g (by decide : (0 : Int) ≤ 0 ∧ 0 < ((2 : Nat) : Int))
        rcases bifSome h with ⟨c1, h⟩ | ⟨c1, h⟩
        · obtain ⟨g1, h⟩ := guardSome h
          obtain ⟨y2, hy2, h⟩ := bindSome h
          obtain ⟨g2, h⟩ := guardSome h
          exact gg (tg := [([], (tgt_runsW_21 c x16 q pos ln y2 o3 o4 o5 o6_0 o6_1))]) sch_runsW [0, 1, 2, 3, 5] (p.b 197 c1 |>.g s_runsW_51 |>.g g1 |>.c (em (onlyW_ok hy2) [0, 1] (hp_runsW_17 c q pos ln o1 o3 o4 o5 o6_0 o6_1)) |>.g (Eq.refl (tgt_runsW_21 c x16 q pos ln y2 o3 o4 o5 o6_0 o6_1)) |>.w 134 g2) (hself _ _ h m0 hm0)
        · obtain ⟨g1, h⟩ := guardSome h
          exact gg sch_runsW [0, 1, 2, 3, 5] (p.b 197 c1 |>.w 134 g1) (hself _ _ h m0 hm0)
    · replace h := h.2 y1 he
      obtain ⟨g1, h⟩ := guardSome h
      exact gg sch_runsW [0, 1, 2, 3, 4, 5, 6, 8, 7, 9] (H0.g g1 |>.g (Eq.refl gk.1) |>.g (Eq.refl gk.2.1) |>.g (Eq.refl gk.2.2) |>.t) (en n (hself _ _ h m0 m1 n hm0 hm1 (Nat.le_refl _) gk))
theorem runsW_ok {n : Nat} {c : ConsD} {q : ProbD} {pos : List Int} {ln : Nat} {lost : List Int} {r : Bool × (List Int)} (h : runsW n c q pos ln lost = some r) : ES Tryd.prog GG 44 [.ref 0 0] [some (.cells (consC c ++ probC q ++ [.ints pos, .msl 1 1 0 ln])), some (.ints lost)] (.bool r.1) [some (.cells (consC c ++ probC q ++ [.ints pos, .msl 1 1 0 ln])), some (.ints r.2)] false := by
  refine ot Tryd.func44 fun B N => ?_
  have hself := runsW_all B N c q pos ln lost n
  unfold runsW at h
  unfold runsW_l0 at h
  rcases bifSome h with ⟨c0, h⟩ | ⟨c0, h⟩
  · cases h
    exact ee sch_runsW [2] [0, 1] (H0.b 32 c0)
  · obtain ⟨⟨g0, g1⟩, h⟩ := guardSome h
    exact gg sch_runsW [0, 1, 2, 3] (H0.b 32 c0 |>.w 41 g0 |>.g g1) (en n (hself _ _ h n (Nat.le_refl _)))
end Go.Proofs.YtekkngkphejfcaaDoor
namespace Go.Proofs.YtekkngkphejfcaaDoor
open Go.RowKit
set_option maxRecDepth 100000
set_option maxHeartbeats 40000000
theorem s_prunedP_6 : SOk (regF Tryd.f25 6) [([0, 1, 2, 3, 4, 5, 6, 7, 8], 9), ([10], 11)] [12] [] := by unfold SOk; kernel_rfl
theorem s_prunedP_13 : SOk (regF Tryd.f25 13) [] (List.range 13) [13] := by unfold SOk; kernel_rfl
def sch_prunedP : Sch := fun i => match i with
  | 6 => .ord [([0, 1, 2, 3, 4, 5, 6, 7, 8], 9), ([10], 11)] [12] []
  | 13 => .ord [] (List.range 13) [13]
  | _ => .no
def hp_prunedP_0 (q : ProbD) (pos : List Int) : DH := [some (.cells (probC q)), some (.cells [.cst .nilFunc, .fn 40 0 (L1 []), .fn 41 0 (L1 []), .fn 42 0 (L1 []), .fn 43 0 (L1 []), .fn 44 0 (L1 []), .fn 45 0 (L1 []), .fn 46 0 (L1 []), .fn 47 0 (L1 []), .fn 48 0 (L1 [])]), some (.ints (List.replicate pos.length (0 : Int)))]
def hp_prunedP_1 (q : ProbD) (pos : List Int) (i : Int) : DH := [some (.cells (probC q)), some (.cells [.cst .nilFunc, .fn 40 0 (L1 []), .fn 41 0 (L1 []), .fn 42 0 (L1 []), .fn 43 0 (L1 []), .fn 44 0 (L1 []), .fn 45 0 (L1 []), .fn 46 0 (L1 []), .fn 47 0 (L1 []), .fn 48 0 (L1 [])]), some (.ints (List.replicate pos.length (0 : Int))), some (.ints (List.replicate pos.length (0 : Int))), some (.cells (consC (q.cons.getD ((i).toNat) default) ++ probC q ++ [.ints pos, .msl 3 1 0 pos.length]))]
def hp_prunedP_2 (pos : List Int) (q : ProbD) (i : Int) (o2 : List Int) : DH := [some (.ints (List.replicate pos.length (0 : Int))), some (.cells (consC (q.cons.getD ((i).toNat) default) ++ probC q ++ [.ints pos, .msl 2 1 0 pos.length])), some (.ints o2)]
def hp_prunedP_3 (pos : List Int) (q : ProbD) (i : Int) (o2 o3 : List Int) : DH := [some (.ints (List.replicate pos.length (0 : Int))), some (.cells (consC (q.cons.getD ((i).toNat) default) ++ probC q ++ [.ints pos, .msl 2 1 0 pos.length])), some (.ints o2), some (.ints o3)]
inductive prunedPPt where
  | l1 (o2 : List Int)
  | l2 (x10 : Nat) (x47 x48 : Int) (o2 o3 : List Int)
def prunedP_l1 (n : Nat) (self : prunedPPt → Option ((List Int))) (q : ProbD) (i : Int) (pos : List Int) (o2 : List Int) : Option ((List Int)) :=
  (cloneI n pos).bind fun y1 =>
   self (.l2 y1.length (y1.length : Int) 0 o2 y1)
def prunedP_l2 (n : Nat) (self : prunedPPt → Option ((List Int))) (q : ProbD) (i : Int) (pos : List Int) (x10 : Nat) (x47 x48 : Int) (o2 o3 : List Int) : Option ((List Int)) :=
  bif (decide (x48 < x47)) then
   if (0 ≤ x48 ∧ x48 < (x10 : Int)) ∧ 0 + ((x48).toNat) < o3.length ∧ (0 ≤ x48 ∧ x48 < (pos.length : Int)) ∧ 0 + ((x48).toNat) < o2.length ∧ R64 (x48 + 1) then
    self (.l2 x10 x47 (x48 + 1) o2 (o3.set (0 + ((x48).toNat)) (bits .andNot .i64 (o3.getD (0 + ((x48).toNat)) 0) (o2.getD (0 + ((x48).toNat)) 0))))
   else none
  else
   if x10 = o3.length then
    (isDead n o3).bind fun y1 =>
     bif y1 then
      if pos.length = (List.replicate pos.length (0 : Int)).length then
       some (List.replicate pos.length (0 : Int))
      else none
     else
      some o3
   else none
def prunedP_l0 (n : Nat) (self : prunedPPt → Option ((List Int))) (q : ProbD) (i : Int) (pos : List Int) : Option ((List Int)) :=
  if ((pos.length : Int) : Int) = (pos.length : Int) ∧ 0 ≤ (pos.length : Int) ∧ ((pos.length : Int) : Int) ≤ 1000000000000 then
   (isDead n pos).bind fun y1 =>
    bif y1 then
     if pos.length = (List.replicate pos.length (0 : Int)).length then
      some (List.replicate pos.length (0 : Int))
     else none
    else
     if 0 ≤ i ∧ i < (q.cons.length : Int) then
      bif (((q.cons.getD ((i).toNat) default).kind) == 0) then
       none
      else
       bif (((q.cons.getD ((i).toNat) default).kind) == 1) then
        (diffW n (q.cons.getD ((i).toNat) default) q pos pos.length (List.replicate pos.length (0 : Int))).bind fun y2 =>
         bif (!y2.1) then
          if pos.length = (List.replicate pos.length (0 : Int)).length then
           some (List.replicate pos.length (0 : Int))
          else none
         else
          self (.l1 y2.2)
       else
        bif (((q.cons.getD ((i).toNat) default).kind) == 2) then
         (countW n (q.cons.getD ((i).toNat) default) q pos pos.length (List.replicate pos.length (0 : Int))).bind fun y2 =>
          bif (!y2.1) then
           if pos.length = (List.replicate pos.length (0 : Int)).length then
            some (List.replicate pos.length (0 : Int))
           else none
          else
           self (.l1 y2.2)
        else
         bif (((q.cons.getD ((i).toNat) default).kind) == 3) then
          (sumW n (q.cons.getD ((i).toNat) default) q pos pos.length (List.replicate pos.length (0 : Int))).bind fun y2 =>
           bif (!y2.1) then
            if pos.length = (List.replicate pos.length (0 : Int)).length then
             some (List.replicate pos.length (0 : Int))
            else none
           else
            self (.l1 y2.2)
         else
          bif (((q.cons.getD ((i).toNat) default).kind) == 4) then
           (riseW n (q.cons.getD ((i).toNat) default) q pos pos.length (List.replicate pos.length (0 : Int))).bind fun y2 =>
            bif (!y2.1) then
             if pos.length = (List.replicate pos.length (0 : Int)).length then
              some (List.replicate pos.length (0 : Int))
             else none
            else
             self (.l1 y2.2)
          else
           bif (((q.cons.getD ((i).toNat) default).kind) == 5) then
            (runsW n (q.cons.getD ((i).toNat) default) q pos pos.length (List.replicate pos.length (0 : Int))).bind fun y2 =>
             bif (!y2.1) then
              if pos.length = (List.replicate pos.length (0 : Int)).length then
               some (List.replicate pos.length (0 : Int))
              else none
             else
              self (.l1 y2.2)
           else
            bif (((q.cons.getD ((i).toNat) default).kind) == 6) then
             (apartW n (q.cons.getD ((i).toNat) default) q pos pos.length (List.replicate pos.length (0 : Int))).bind fun y2 =>
              bif (!y2.1) then
               if pos.length = (List.replicate pos.length (0 : Int)).length then
                some (List.replicate pos.length (0 : Int))
               else none
              else
               self (.l1 y2.2)
            else
             bif (((q.cons.getD ((i).toNat) default).kind) == 7) then
              (notW n (q.cons.getD ((i).toNat) default) q pos pos.length (List.replicate pos.length (0 : Int))).bind fun y2 =>
               bif (!y2.1) then
                if pos.length = (List.replicate pos.length (0 : Int)).length then
                 some (List.replicate pos.length (0 : Int))
                else none
               else
                self (.l1 y2.2)
             else
              bif (((q.cons.getD ((i).toNat) default).kind) == 8) then
               (connW n (q.cons.getD ((i).toNat) default) q pos pos.length (List.replicate pos.length (0 : Int))).bind fun y2 =>
                bif (!y2.1) then
                 if pos.length = (List.replicate pos.length (0 : Int)).length then
                  some (List.replicate pos.length (0 : Int))
                 else none
                else
                 self (.l1 y2.2)
              else
               bif (((q.cons.getD ((i).toNat) default).kind) == 9) then
                (loopW n (q.cons.getD ((i).toNat) default) q pos pos.length (List.replicate pos.length (0 : Int))).bind fun y2 =>
                 bif (!y2.1) then
                  if pos.length = (List.replicate pos.length (0 : Int)).length then
                   some (List.replicate pos.length (0 : Int))
                  else none
                 else
                  self (.l1 y2.2)
               else
                none
     else none
  else none
def prunedP_m (q : ProbD) (i : Int) (pos : List Int) : Nat → prunedPPt → Option ((List Int))
  | 0, _ => none
  | n + 1, .l1 o2 => prunedP_l1 n (prunedP_m q i pos n) q i pos o2
  | n + 1, .l2 x10 x47 x48 o2 o3 => prunedP_l2 n (prunedP_m q i pos n) q i pos x10 x47 x48 o2 o3
def prunedP (n : Nat) (q : ProbD) (i : Int) (pos : List Int) : Option ((List Int)) := prunedP_l0 n (prunedP_m q i pos n) q i pos
/-- What the points stand for. -/
def prunedP_at (n : Nat) (B : Nat) (N : Yard Tryd.prog GG 0) (q : ProbD) (i : Int) (pos : List Int) (r : (List Int)) : prunedPPt → Prop
  | .l1 o2 => TrK Tryd.prog GG Fence.wide (some B) 0 N (Fin Tryd.prog Tryd.f25 0 (.ints r) []) (atGC (bodyC Tryd.f25) 9 []) ⟨frm 69 [(2, .ints pos), (8, .msl 0 1 0 pos.length), (9, .ref 1 0)], [some (.ints (List.replicate pos.length (0 : Int))), some (.cells (consC (q.cons.getD ((i).toNat) default) ++ probC q ++ [.ints pos, .msl 2 1 0 pos.length])), some (.ints o2)]⟩
  | .l2 x10 x47 x48 o2 o3 => ∀ m0 : Nat, n ≤ m0 → TrK Tryd.prog GG Fence.wide (some B) 0 N (Fin Tryd.prog Tryd.f25 0 (.ints r) []) (toN m0 (atNC (bodyC Tryd.f25) 0 [])) ⟨frm 69 [(8, .msl 0 1 0 pos.length), (9, .ref 1 0), (10, .msl 3 1 0 x10), (47, .i x47), (48, .i x48)], [some (.ints (List.replicate pos.length (0 : Int))), some (.cells (consC (q.cons.getD ((i).toNat) default) ++ probC q ++ [.ints pos, .msl 2 1 0 pos.length])), some (.ints o2), some (.ints o3)]⟩
theorem prunedP_all (B : Nat) (N : Yard Tryd.prog GG 0) (q : ProbD) (i : Int) (pos : List Int) : ∀ (n : Nat) (pt : prunedPPt) (r : (List Int)), prunedP_m q i pos n pt = some r → prunedP_at n B N q i pos r pt := by
  intro n; induction n with
  | zero => intro _ _ h; cases h
  | succ n hself =>
   intro pt r h
   cases pt
   case l1 o2 =>
    have h : prunedP_l1 n (prunedP_m q i pos n) q i pos o2 = some r := h
    show TrK _ _ _ _ _ _ _ _ _
    unfold prunedP_l1 at h
    obtain ⟨y1, hy1, h⟩ := bindSome h
    exact gg sch_prunedP [0, 1, 2, 3] (H0.c (ES.snapNew (ds := [.ints pos]) (cloneI_ok hy1) (hp_prunedP_2 pos q i o2) (allSnap_plain (by kernel_rfl)) rfl)) (en n (hself _ _ h n (Nat.le_refl _)))
   case l2 x10 x47 x48 o2 o3 =>
    have h : prunedP_l2 n (prunedP_m q i pos n) q i pos x10 x47 x48 o2 o3 = some r := h
    intro m0 hm0
    refine rd hm0 fun m0 hm0 => ?_
    unfold prunedP_l2 at h
    rcases bifSome h with ⟨c0, h⟩ | ⟨c0, h⟩
    · obtain ⟨⟨g0, g1, g2, g3, g4⟩, h⟩ := guardSome h
      exact gg (stopAt 9 sch_prunedP) [0, 1, 2, 3] (H0.b 49 c0 |>.g s_prunedP_13 |>.g g0 |>.g g1 |>.g g2 |>.g g3 |>.g g0 |>.g g1 |>.w 64 g4) (hself _ _ h m0 hm0)
    · obtain ⟨g0, h⟩ := guardSome h
      obtain ⟨y1, hy1, h⟩ := bindSome h
      have p := H0.b 49 c0 |>.c (sb [.msl 3 1 0 x10] (isDead_ok hy1) (hp_prunedP_3 pos q i o2 o3) ⟨Snap.ints rfl g0, trivial⟩)
      rcases bifSome h with ⟨c1, h⟩ | ⟨c1, h⟩
      · obtain ⟨g1, h⟩ := guardSome h
        cases h
        exact ez (stopAt 9 sch_prunedP) [6] [0] (p.b 66 c1) [0] (H0.g g1)
      · obtain rfl := Option.some.inj h
        exact ez (stopAt 9 sch_prunedP) [6] [3] (p.b 66 c1) [0] (H0.g g0)
theorem prunedP_ok {n : Nat} {q : ProbD} {i : Int} {pos : List Int} {r : (List Int)} (h : prunedP n q i pos = some r) : ES Tryd.prog GG 25 [.agg 5 (L1 (probC q)), .i i, .ints pos] [] (.ints r) [] true := by
  refine ot Tryd.func25 fun B N => ?_
  have hself := prunedP_all B N q i pos n
  unfold prunedP at h
  unfold prunedP_l0 at h
  obtain ⟨g0, h⟩ := guardSome h
  obtain ⟨y1, hy1, h⟩ := bindSome h
  have p := H0.t |>.g g0 |>.c (fb (isDead_ok hy1) (hp_prunedP_0 q pos))
  rcases bifSome h with ⟨c0, h⟩ | ⟨c0, h⟩
  · obtain ⟨g1, h⟩ := guardSome h
    cases h
    exact ez (stopAt 9 sch_prunedP) [6] [2] (p.b 18 c0) [0] (H0.g g1)
  · obtain ⟨g1, h⟩ := guardSome h
    have p := p.b 18 c0 |>.g s_prunedP_6 |>.g g1 |>.g g0
    rcases bifSome h with ⟨c1, h⟩ | ⟨c1, h⟩
    · cases h
    · rcases bifSome h with ⟨c3, h⟩ | ⟨c3, h⟩
      · obtain ⟨y2, hy2, h⟩ := bindSome h
        have p := p.o 36 (DLe.int (k := .i64) (eq_of_beq c3)) |>.g (by decide : (0 : Int) ≤ 1 ∧ 1 < ((10 : Nat) : Int)) |>.c (em (diffW_ok hy2) [4, 3] (hp_prunedP_1 q pos i))
        rcases bifSome h with ⟨c5, h⟩ | ⟨c5, h⟩
        · obtain ⟨g2, h⟩ := guardSome h
          cases h
          exact ez (stopAt 9 sch_prunedP) [6] [2] (p.b 42 c5) [0] (H0.g g2)
        · exact gg (stopAt 9 sch_prunedP) [2, 4, 3] (p.b 42 c5) (hself _ _ h)
      · rcases bifSome h with ⟨c5, h⟩ | ⟨c5, h⟩
        · obtain ⟨y2, hy2, h⟩ := bindSome h
          have p := p.o 36 (DLe.int (k := .i64) (eq_of_beq c5)) |>.g (by decide : (0 : Int) ≤ 2 ∧ 2 < ((10 : Nat) : Int)) |>.c (em (countW_ok hy2) [4, 3] (hp_prunedP_1 q pos i))
          rcases bifSome h with ⟨c7, h⟩ | ⟨c7, h⟩
          · obtain ⟨g2, h⟩ := guardSome h
            cases h
            exact ez (stopAt 9 sch_prunedP) [6] [2] (p.b 42 c7) [0] (H0.g g2)
          · exact gg (stopAt 9 sch_prunedP) [2, 4, 3] (p.b 42 c7) (hself _ _ h)
        · rcases bifSome h with ⟨c7, h⟩ | ⟨c7, h⟩
          · obtain ⟨y2, hy2, h⟩ := bindSome h
            have p := p.o 36 (DLe.int (k := .i64) (eq_of_beq c7)) |>.g (by decide : (0 : Int) ≤ 3 ∧ 3 < ((10 : Nat) : Int)) |>.c (em (sumW_ok hy2) [4, 3] (hp_prunedP_1 q pos i))
            rcases bifSome h with ⟨c9, h⟩ | ⟨c9, h⟩
            · obtain ⟨g2, h⟩ := guardSome h
              cases h
              exact ez (stopAt 9 sch_prunedP) [6] [2] (p.b 42 c9) [0] (H0.g g2)
            · exact gg (stopAt 9 sch_prunedP) [2, 4, 3] (p.b 42 c9) (hself _ _ h)
          · rcases bifSome h with ⟨c9, h⟩ | ⟨c9, h⟩
            · obtain ⟨y2, hy2, h⟩ := bindSome h
              have p := p.o 36 (DLe.int (k := .i64) (eq_of_beq c9)) |>.g (by decide : (0 : Int) ≤ 4 ∧ 4 < ((10 : Nat) : Int)) |>.c (em (riseW_ok hy2) [4, 3] (hp_prunedP_1 q pos i))
              rcases bifSome h with ⟨c11, h⟩ | ⟨c11, h⟩
              · obtain ⟨g2, h⟩ := guardSome h
                cases h
                exact ez (stopAt 9 sch_prunedP) [6] [2] (p.b 42 c11) [0] (H0.g g2)
              · exact gg (stopAt 9 sch_prunedP) [2, 4, 3] (p.b 42 c11) (hself _ _ h)
            · rcases bifSome h with ⟨c11, h⟩ | ⟨c11, h⟩
              · obtain ⟨y2, hy2, h⟩ := bindSome h
                have p := p.o 36 (DLe.int (k := .i64) (eq_of_beq c11)) |>.g (by decide : (0 : Int) ≤ 5 ∧ 5 < ((10 : Nat) : Int)) |>.c (em (runsW_ok hy2) [4, 3] (hp_prunedP_1 q pos i))
                rcases bifSome h with ⟨c13, h⟩ | ⟨c13, h⟩
                · obtain ⟨g2, h⟩ := guardSome h
                  cases h
                  exact ez (stopAt 9 sch_prunedP) [6] [2] (p.b 42 c13) [0] (H0.g g2)
                · exact gg (stopAt 9 sch_prunedP) [2, 4, 3] (p.b 42 c13) (hself _ _ h)
              · rcases bifSome h with ⟨c13, h⟩ | ⟨c13, h⟩
                · obtain ⟨y2, hy2, h⟩ := bindSome h
                  have p := p.o 36 (DLe.int (k := .i64) (eq_of_beq c13)) |>.g (by decide : (0 : Int) ≤ 6 ∧ 6 < ((10 : Nat) : Int)) |>.c (em (apartW_ok hy2) [4, 3] (hp_prunedP_1 q pos i))
                  rcases bifSome h with ⟨c15, h⟩ | ⟨c15, h⟩
                  · obtain ⟨g2, h⟩ := guardSome h
                    cases h
                    exact ez (stopAt 9 sch_prunedP) [6] [2] (p.b 42 c15) [0] (H0.g g2)
                  · exact gg (stopAt 9 sch_prunedP) [2, 4, 3] (p.b 42 c15) (hself _ _ h)
                · rcases bifSome h with ⟨c15, h⟩ | ⟨c15, h⟩
                  · obtain ⟨y2, hy2, h⟩ := bindSome h
                    have p := p.o 36 (DLe.int (k := .i64) (eq_of_beq c15)) |>.g (by decide : (0 : Int) ≤ 7 ∧ 7 < ((10 : Nat) : Int)) |>.c (em (notW_ok hy2) [4, 3] (hp_prunedP_1 q pos i))
                    rcases bifSome h with ⟨c17, h⟩ | ⟨c17, h⟩
                    · obtain ⟨g2, h⟩ := guardSome h
                      cases h
                      exact ez (stopAt 9 sch_prunedP) [6] [2] (p.b 42 c17) [0] (H0.g g2)
                    · exact gg (stopAt 9 sch_prunedP) [2, 4, 3] (p.b 42 c17) (hself _ _ h)
                  · rcases bifSome h with ⟨c17, h⟩ | ⟨c17, h⟩
                    · obtain ⟨y2, hy2, h⟩ := bindSome h
                      have p := p.o 36 (DLe.int (k := .i64) (eq_of_beq c17)) |>.g (by decide : (0 : Int) ≤ 8 ∧ 8 < ((10 : Nat) : Int)) |>.c (em (connW_ok hy2) [4, 3] (hp_prunedP_1 q pos i))
                      rcases bifSome h with ⟨c19, h⟩ | ⟨c19, h⟩
                      · obtain ⟨g2, h⟩ := guardSome h
                        cases h
                        exact ez (stopAt 9 sch_prunedP) [6] [2] (p.b 42 c19) [0] (H0.g g2)
                      · exact gg (stopAt 9 sch_prunedP) [2, 4, 3] (p.b 42 c19) (hself _ _ h)
                    · rcases bifSome h with ⟨c19, h⟩ | ⟨c19, h⟩
                      · obtain ⟨y2, hy2, h⟩ := bindSome h
                        have p := p.o 36 (DLe.int (k := .i64) (eq_of_beq c19)) |>.g (by decide : (0 : Int) ≤ 9 ∧ 9 < ((10 : Nat) : Int)) |>.c (em (loopW_ok hy2) [4, 3] (hp_prunedP_1 q pos i))
                        rcases bifSome h with ⟨c21, h⟩ | ⟨c21, h⟩
                        · obtain ⟨g2, h⟩ := guardSome h
                          cases h
                          exact ez (stopAt 9 sch_prunedP) [6] [2] (p.b 42 c21) [0] (H0.g g2)
                        · exact gg (stopAt 9 sch_prunedP) [2, 4, 3] (p.b 42 c21) (hself _ _ h)
                      · cases h
def pruneP_l0 (n : Nat) (q : ProbD) (i : Int) (pos : List Int) : Option ((List Int) × Int) :=
  (checkP n q i pos).bind fun y1 =>
   bif (y1 != 0) then
    some (([] : List Int), y1)
   else
    (prunedP n q i pos).bind fun y2 =>
     some (y2, 0)
def pruneP (n : Nat) (q : ProbD) (i : Int) (pos : List Int) : Option ((List Int) × Int) := pruneP_l0 n q i pos
theorem pruneP_ok {n : Nat} {q : ProbD} {i : Int} {pos : List Int} {r : (List Int) × Int} (h : pruneP n q i pos = some r) : ES Tryd.prog GG 11 [.agg 5 (L1 (probC q)), .i i, .ints pos] [] (.tup 2 (L1 [.ints r.1, .i r.2])) [] true := by
  refine ot Tryd.func11 fun B N => ?_
  unfold pruneP at h
  unfold pruneP_l0 at h
  obtain ⟨y1, hy1, h⟩ := bindSome h
  have p := H0.c (fb (checkP_ok hy1) [some (.cells (probC q))])
  rcases bifSome h with ⟨c0, h⟩ | ⟨c0, h⟩
  · cases h
    exact el sch0 [6, 7] [] (p.b 14 c0) [] H0 [.nils, .i y1] (DLe.tupL (l := [.nils, .i y1]) (l' := [.ints ([] : List Int), .i y1]) rfl ⟨DLe.ints_nil, (DLe.refl _), trivial⟩)
  · obtain ⟨y2, hy2, h⟩ := bindSome h
    cases h
    exact ee sch0 [6, 7] [] (p.b 14 c0 |>.c (fb (prunedP_ok hy2) [some (.cells (probC q))]))
theorem s_lostP_8 : SOk (regF Tryd.f14 8) [([0, 1, 2, 3, 4, 5, 6, 7, 8], 9)] [] [] := by unfold SOk; kernel_rfl
def sch_lostP : Sch := fun i => match i with
  | 8 => .ord [([0, 1, 2, 3, 4, 5, 6, 7, 8], 9)] [] []
  | _ => .no
def hp_lostP_0 (x25 : Int) (pos x9 : List Int) : DH := [some (.cells [.nils]), some (.cells [.i x25]), some (.iter ((symsI (bits .andNot .i64 (pos.getD ((x25).toNat) 0) (x9.getD ((x25).toNat) 0))).map encI))]
def hp_lostP_1 (o0_0 : Nat) (x25 : Int) (pos x9 : List Int) (o1 : List (Int × Int)) : DH := [some (.cells [.msl 3 2 0 o0_0]), some (.cells [.i x25]), some (.iter ((symsI (bits .andNot .i64 (pos.getD ((x25).toNat) 0) (x9.getD ((x25).toNat) 0))).map encI)), some (.arr 2 o1.length (rowE iiC o1))]
def hp_lostP_2 (r37s1_0_0 : Nat) (r37s1_1_0 : Int) (r37s1_3 : List (Int × Int)) : DH := [some (.cells [.msl 3 2 0 r37s1_0_0]), some (.cells [.i r37s1_1_0]), none, some (.arr 2 r37s1_3.length (rowE iiC r37s1_3))]
def hp_lostP_3 (r37s0_0_0 : Nat) (x25 : Int) (r37s0_3 : List (Int × Int)) : DH := [some (.cells [.msl 3 2 0 r37s0_0_0]), some (.cells [.i x25]), none, some (.arr 2 r37s0_3.length (rowE iiC r37s0_3))]
inductive lostP_b37_1T where
  | s0 (r37s0_0_0 : Nat) (r37s0_3 : List (Int × Int))
def lostP_b37_1_H (pos x9 : List Int) (x25 : Int) : lostP_b37_1T → DH
  | .s0 r37s0_0_0 r37s0_3 => [some (.cells [.msl 3 2 0 r37s0_0_0]), some (.cells [.i x25]), none, some (.arr 2 r37s0_3.length (rowE iiC r37s0_3))]
def lostP_b37_1_e0 (n : Nat) (pos x9 : List Int) (x25 e37 : Int) (r37s0_0_0 : Nat) (r37s0_3 : List (Int × Int)) : Option lostP_b37_1T :=
  if r37s0_0_0 = r37s0_3.length ∧ r37s0_3.length + ([(x25, e37)] : List (Int × Int)).length ≤ LIM then
   some (.s0 (r37s0_3.length + ([(x25, e37)] : List (Int × Int)).length) (r37s0_3 ++ ([(x25, e37)] : List (Int × Int))))
  else none
def lostP_b37_1_l0 (n : Nat) (pos x9 : List Int) (x25 e37 : Int) : lostP_b37_1T → Option lostP_b37_1T
  | .s0 r37s0_0_0 r37s0_3 => lostP_b37_1_e0 n pos x9 x25 e37 r37s0_0_0 r37s0_3
def lostP_b37_1 (n : Nat) (pos x9 : List Int) (x25 e37 : Int) (s : lostP_b37_1T) : Option lostP_b37_1T := lostP_b37_1_l0 n pos x9 x25 e37 s
theorem lostP_b37_1_ok (n : Nat) (pos x9 : List Int) (x25 : Int) (l B : Nat) (N : Yard Tryd.prog GG 3) (e37 : Int) (s : lostP_b37_1T) (r : lostP_b37_1T) (h : lostP_b37_1 n pos x9 x25 e37 s = some r) : TrA Tryd.prog GG (Fence.wide.inRound l) (some B) 3 N (RndQ 3 [] 0 (lostP_b37_1_H pos x9 x25 r)) (rgA Tryd.f14 37) (rgB Tryd.f14 37) ⟨frm 47 [(2, .ints pos), (6, .ref 0 0), (9, .ints x9), (10, .ref 1 0), (24, .i (pos.length : Int)), (25, .i x25), (37, .it 2), (38, .i e37)], lostP_b37_1_H pos x9 x25 s⟩ := by
  unfold lostP_b37_1 at h
  cases s with
  | s0 r37s0_0_0 r37s0_3 =>
    have h : lostP_b37_1_e0 n pos x9 x25 e37 r37s0_0_0 r37s0_3 = some r := h
    unfold lostP_b37_1_e0 at h
    refine ag sch_lostP [0, 1, 2, 3] H0 (frm 47 [(6, .ref 0 0), (10, .ref 1 0), (11, .i e37)]) (hp_lostP_3 r37s0_0_0 x25 r37s0_3) ?_
    intro N
    obtain ⟨⟨b37v1_g0, b37v1_g1⟩, h⟩ := guardSome h
    cases h
    exact rr sch_lostP [0, 1, 2, 5] rfl (H0.a 43 4 2 (rows_build (c := iiC) (L := ([(x25, e37)] : List (Int × Int))) (vals := [.agg 2 (L1 [.i x25, .i e37])]) rfl ⟨⟨_, rfl, ⟨dle_refl, dle_refl, trivial⟩⟩, trivial⟩) |>.g (And.intro (And.intro (And.intro (Eq.refl 0) (Eq.refl 1)) (oneR iiC ([(x25, e37)] : List (Int × Int)) (([(x25, e37)] : List (Int × Int)).length) 2 fun _ => ⟨rfl, rfl⟩)) (And.intro (And.intro (Eq.refl 0) b37v1_g0) b37v1_g1)) |>.a 44 5 2 (rows_app (enc := (encE iiC)) (L := r37s0_3) (L' := ([(x25, e37)] : List (Int × Int))) rfl rfl fun _ _ _ _ => dle_refl) |>.t)
inductive lostP_b37T where
  | s0
  | s1 (r37s1_0_0 : Nat) (r37s1_1_0 : Int) (r37s1_3 : List (Int × Int))
def lostP_b37_H (pos x9 : List Int) (x25 : Int) : lostP_b37T → DH
  | .s0 => [some (.cells [.nils]), some (.cells [.i x25]), none]
  | .s1 r37s1_0_0 r37s1_1_0 r37s1_3 => [some (.cells [.msl 3 2 0 r37s1_0_0]), some (.cells [.i r37s1_1_0]), none, some (.arr 2 r37s1_3.length (rowE iiC r37s1_3))]
def lostP_b37_e0 (n : Nat) (pos x9 : List Int) (x25 e37 : Int) : Option lostP_b37T :=
  some (.s1 (([(x25, e37)] : List (Int × Int)).length) x25 ([(x25, e37)] : List (Int × Int)))
def lostP_b37_e1 (n : Nat) (pos x9 : List Int) (x25 e37 : Int) (r37s1_0_0 : Nat) (r37s1_1_0 : Int) (r37s1_3 : List (Int × Int)) : Option lostP_b37T :=
  if r37s1_0_0 = r37s1_3.length ∧ r37s1_3.length + ([(r37s1_1_0, e37)] : List (Int × Int)).length ≤ LIM then
   some (.s1 (r37s1_3.length + ([(r37s1_1_0, e37)] : List (Int × Int)).length) r37s1_1_0 (r37s1_3 ++ ([(r37s1_1_0, e37)] : List (Int × Int))))
  else none
def lostP_b37_l0 (n : Nat) (pos x9 : List Int) (x25 e37 : Int) : lostP_b37T → Option lostP_b37T
  | .s0 => lostP_b37_e0 n pos x9 x25 e37
  | .s1 r37s1_0_0 r37s1_1_0 r37s1_3 => lostP_b37_e1 n pos x9 x25 e37 r37s1_0_0 r37s1_1_0 r37s1_3
def lostP_b37 (n : Nat) (pos x9 : List Int) (x25 e37 : Int) (s : lostP_b37T) : Option lostP_b37T := lostP_b37_l0 n pos x9 x25 e37 s
theorem lostP_b37_ok (n : Nat) (pos x9 : List Int) (x25 : Int) (l B : Nat) (N : Yard Tryd.prog GG 3) (e37 : Int) (s : lostP_b37T) (r : lostP_b37T) (h : lostP_b37 n pos x9 x25 e37 s = some r) : TrA Tryd.prog GG (Fence.wide.inRound l) (some B) 3 N (RndQ 3 [] 0 (lostP_b37_H pos x9 x25 r)) (rgA Tryd.f14 37) (rgB Tryd.f14 37) ⟨frm 47 [(2, .ints pos), (6, .ref 0 0), (9, .ints x9), (10, .ref 1 0), (24, .i (pos.length : Int)), (25, .i x25), (37, .it 2), (38, .i e37)], lostP_b37_H pos x9 x25 s⟩ := by
  unfold lostP_b37 at h
  cases s with
  | s0 =>
    have h : lostP_b37_e0 n pos x9 x25 e37 = some r := h
    unfold lostP_b37_e0 at h
    refine ag sch_lostP [0, 1, 2] H0 (frm 47 [(6, .ref 0 0), (10, .ref 1 0), (11, .i e37)]) [some (.cells [.nils]), some (.cells [.i x25]), none] ?_
    intro N
    cases h
    exact rr sch_lostP [0, 1, 2, 4] rfl (H0.a 43 3 2 (rows_build (c := iiC) (L := ([(x25, e37)] : List (Int × Int))) (vals := [.agg 2 (L1 [.i x25, .i e37])]) rfl ⟨⟨_, rfl, ⟨dle_refl, dle_refl, trivial⟩⟩, trivial⟩) |>.g (And.intro (And.intro (And.intro (Eq.refl 0) (Eq.refl 1)) (oneR iiC ([(x25, e37)] : List (Int × Int)) (([(x25, e37)] : List (Int × Int)).length) 2 fun _ => ⟨rfl, rfl⟩)) (And.intro (by decide : 0 < 1) (by decide : 1 ≤ LIM))) |>.t)
  | s1 r37s1_0_0 r37s1_1_0 r37s1_3 =>
    have h : lostP_b37_e1 n pos x9 x25 e37 r37s1_0_0 r37s1_1_0 r37s1_3 = some r := h
    unfold lostP_b37_e1 at h
    refine ag sch_lostP [0, 1, 2, 3] H0 (frm 47 [(6, .ref 0 0), (10, .ref 1 0), (11, .i e37)]) (hp_lostP_2 r37s1_0_0 r37s1_1_0 r37s1_3) ?_
    intro N
    obtain ⟨⟨b37_g0, b37_g1⟩, h⟩ := guardSome h
    cases h
    exact rr sch_lostP [0, 1, 2, 5] rfl (H0.a 43 4 2 (rows_build (c := iiC) (L := ([(r37s1_1_0, e37)] : List (Int × Int))) (vals := [.agg 2 (L1 [.i r37s1_1_0, .i e37])]) rfl ⟨⟨_, rfl, ⟨dle_refl, dle_refl, trivial⟩⟩, trivial⟩) |>.g (And.intro (And.intro (And.intro (Eq.refl 0) (Eq.refl 1)) (oneR iiC ([(r37s1_1_0, e37)] : List (Int × Int)) (([(r37s1_1_0, e37)] : List (Int × Int)).length) 2 fun _ => ⟨rfl, rfl⟩)) (And.intro (And.intro (Eq.refl 0) b37_g0) b37_g1)) |>.a 44 5 2 (rows_app (enc := (encE iiC)) (L := r37s1_3) (L' := ([(r37s1_1_0, e37)] : List (Int × Int))) rfl rfl fun _ _ _ _ => dle_refl) |>.t)
inductive lostPPt where
  | l1 (x9 : List Int) (x25 : Int)
  | l2 (x9 : List Int) (x25 : Int) (o0_0 : Nat) (o1 : List (Int × Int))
def lostP_l1 (n : Nat) (self : lostPPt → Option ((List (Int × Int)) × Int)) (q : ProbD) (i : Int) (pos : List Int) (x9 : List Int) (x25 : Int) : Option ((List (Int × Int)) × Int) :=
  bif (decide (x25 < (pos.length : Int))) then
   if (0 ≤ x25 ∧ x25 < (pos.length : Int)) ∧ (0 ≤ x25 ∧ x25 < (x9.length : Int)) ∧ (0 ≤ (bits .andNot .i64 (pos.getD ((x25).toNat) 0) (x9.getD ((x25).toNat) 0)) ∧ (bits .andNot .i64 (pos.getD ((x25).toNat) 0) (x9.getD ((x25).toNat) 0)) < 9223372036854775808) then
    (foldO (lostP_b37 n pos x9 x25) (symsI (bits .andNot .i64 (pos.getD ((x25).toNat) 0) (x9.getD ((x25).toNat) 0))) (.s0)).bind fun y1 =>
     match y1 with
     | .s0 =>
      if R64 (x25 + 1) then
       self (.l1 x9 (x25 + 1))
      else none
     | .s1 y1_1_0 y1_1_1 y1_1_2 =>
      if R64 (x25 + 1) then
       self (.l2 x9 (x25 + 1) y1_1_0 y1_1_2)
      else none
   else none
  else
   some (([] : List (Int × Int)), 0)
def lostP_l2 (n : Nat) (self : lostPPt → Option ((List (Int × Int)) × Int)) (q : ProbD) (i : Int) (pos : List Int) (x9 : List Int) (x25 : Int) (o0_0 : Nat) (o1 : List (Int × Int)) : Option ((List (Int × Int)) × Int) :=
  bif (decide (x25 < (pos.length : Int))) then
   if (0 ≤ x25 ∧ x25 < (pos.length : Int)) ∧ (0 ≤ x25 ∧ x25 < (x9.length : Int)) ∧ (0 ≤ (bits .andNot .i64 (pos.getD ((x25).toNat) 0) (x9.getD ((x25).toNat) 0)) ∧ (bits .andNot .i64 (pos.getD ((x25).toNat) 0) (x9.getD ((x25).toNat) 0)) < 9223372036854775808) then
    (foldO (lostP_b37_1 n pos x9 x25) (symsI (bits .andNot .i64 (pos.getD ((x25).toNat) 0) (x9.getD ((x25).toNat) 0))) (.s0 o0_0 o1)).bind fun y1 =>
     match y1 with
     | .s0 y1_0_0 y1_0_1 =>
      if R64 (x25 + 1) then
       self (.l2 x9 (x25 + 1) y1_0_0 y1_0_1)
      else none
   else none
  else
   if o0_0 = o1.length then
    some (o1, 0)
   else none
def lostP_l0 (n : Nat) (self : lostPPt → Option ((List (Int × Int)) × Int)) (q : ProbD) (i : Int) (pos : List Int) : Option ((List (Int × Int)) × Int) :=
  (checkP n q i pos).bind fun y1 =>
   bif (y1 != 0) then
    some (([] : List (Int × Int)), y1)
   else
    (prunedP n q i pos).bind fun y2 =>
     self (.l1 y2 0)
def lostP_m (q : ProbD) (i : Int) (pos : List Int) : Nat → lostPPt → Option ((List (Int × Int)) × Int)
  | 0, _ => none
  | n + 1, .l1 x9 x25 => lostP_l1 n (lostP_m q i pos n) q i pos x9 x25
  | n + 1, .l2 x9 x25 o0_0 o1 => lostP_l2 n (lostP_m q i pos n) q i pos x9 x25 o0_0 o1
def lostP (n : Nat) (q : ProbD) (i : Int) (pos : List Int) : Option ((List (Int × Int)) × Int) := lostP_l0 n (lostP_m q i pos n) q i pos
/-- What the points stand for. -/
def lostP_at (n : Nat) (B : Nat) (N : Yard Tryd.prog GG 0) (q : ProbD) (i : Int) (pos : List Int) (r : (List (Int × Int)) × Int) : lostPPt → Prop
  | .l1 x9 x25 => ∀ m0 : Nat, n ≤ m0 → TrK Tryd.prog GG Fence.wide (some B) 0 N (Fin Tryd.prog Tryd.f14 0 (.tup 2 (L1 [.sl 2 r.1.length (rowE iiC r.1), .i r.2])) []) (toN m0 (atNC (bodyC Tryd.f14) 0 [])) ⟨frm 47 [(2, .ints pos), (6, .ref 0 0), (9, .ints x9), (24, .i (pos.length : Int)), (25, .i x25)], [some (.cells [.nils])]⟩
  | .l2 x9 x25 o0_0 o1 => ∀ m0 : Nat, n ≤ m0 → TrK Tryd.prog GG Fence.wide (some B) 0 N (Fin Tryd.prog Tryd.f14 0 (.tup 2 (L1 [.sl 2 r.1.length (rowE iiC r.1), .i r.2])) []) (toN m0 (atNC (bodyC Tryd.f14) 0 [])) ⟨frm 47 [(2, .ints pos), (6, .ref 0 0), (9, .ints x9), (24, .i (pos.length : Int)), (25, .i x25)], [some (.cells [.msl 1 2 0 o0_0]), some (.arr 2 o1.length (rowE iiC o1))]⟩
theorem lostP_all (B : Nat) (N : Yard Tryd.prog GG 0) (q : ProbD) (i : Int) (pos : List Int) : ∀ (n : Nat) (pt : lostPPt) (r : (List (Int × Int)) × Int), lostP_m q i pos n pt = some r → lostP_at n B N q i pos r pt := by
  intro n; induction n with
  | zero => intro _ _ h; cases h
  | succ n hself =>
   intro pt r h
   cases pt
   case l1 x9 x25 =>
    have h : lostP_l1 n (lostP_m q i pos n) q i pos x9 x25 = some r := h
    intro m0 hm0
    refine rd hm0 fun m0 hm0 => ?_
    unfold lostP_l1 at h
    rcases bifSome h with ⟨c0, h⟩ | ⟨c0, h⟩
    · obtain ⟨⟨g0, g1, g2⟩, h⟩ := guardSome h
      obtain ⟨y1, hy1, h⟩ := bindSome h
      refine gs sch_lostP [0, 1, 2] (H0.b 26 c0 |>.t |>.g s_lostP_8 |>.g g0 |>.g g1 |>.c (symbols_it g2 [some (.cells [.nils]), some (.cells [.i x25])])) (atT (bodyC Tryd.f14) 37 [m0]) (frm 47 [(2, .ints pos), (6, .ref 0 0), (9, .ints x9), (10, .ref 1 0), (24, .i (pos.length : Int)), (25, .i x25), (37, .it 2)]) (hp_lostP_0 x25 pos x9) ?_
      refine r0 2 37 #[38] encI 3 hy1 (lostP_b37_ok n pos x9 x25) ?_
      cases y1 with
      | s0 =>
        dsimp only at h
        obtain ⟨g3, h⟩ := guardSome h
        exact gg sch_lostP [0] (H0.w 45 g3) (hself _ _ h m0 hm0)
      | s1 y1_1_0 y1_1_1 y1_1_2 =>
        dsimp only at h
        obtain ⟨g3, h⟩ := guardSome h
        exact gg sch_lostP [0, 3] (H0.w 45 g3) (hself _ _ h m0 hm0)
    · cases h
      exact el sch_lostP [6, 7] [0] (H0.b 26 c0 |>.t) [] H0 [.nils, .i 0] (DLe.tupL (l := [.nils, .i 0]) (l' := [.sl 2 (([] : List (Int × Int)).length) (rowE iiC ([] : List (Int × Int))), .i 0]) rfl ⟨(DLe.sl_nil _ _), (DLe.refl _), trivial⟩)
   case l2 x9 x25 o0_0 o1 =>
    have h : lostP_l2 n (lostP_m q i pos n) q i pos x9 x25 o0_0 o1 = some r := h
    intro m0 hm0
    refine rd hm0 fun m0 hm0 => ?_
    unfold lostP_l2 at h
    rcases bifSome h with ⟨c0, h⟩ | ⟨c0, h⟩
    · obtain ⟨⟨g0, g1, g2⟩, h⟩ := guardSome h
      obtain ⟨y1, hy1, h⟩ := bindSome h
      refine gs sch_lostP [0, 2, 3, 1] (H0.b 26 c0 |>.t |>.g s_lostP_8 |>.g g0 |>.g g1 |>.c (symbols_it g2 [some (.cells [.msl 1 2 0 o0_0]), some (.arr 2 o1.length (rowE iiC o1)), some (.cells [.i x25])])) (atT (bodyC Tryd.f14) 37 [m0]) (frm 47 [(2, .ints pos), (6, .ref 0 0), (9, .ints x9), (10, .ref 1 0), (24, .i (pos.length : Int)), (25, .i x25), (37, .it 2)]) (hp_lostP_1 o0_0 x25 pos x9 o1) ?_
      refine r0 2 37 #[38] encI 3 hy1 (lostP_b37_1_ok n pos x9 x25) ?_
      cases y1 with
      | s0 y1_0_0 y1_0_1 =>
        dsimp only at h
        obtain ⟨g3, h⟩ := guardSome h
        exact gg sch_lostP [0, 3] (H0.w 45 g3) (hself _ _ h m0 hm0)
    · obtain ⟨g0, h⟩ := guardSome h
      cases h
      exact ez sch_lostP [6, 7] [0, 1] (H0.b 26 c0 |>.t) [1] (H0.g g0)
theorem lostP_ok {n : Nat} {q : ProbD} {i : Int} {pos : List Int} {r : (List (Int × Int)) × Int} (h : lostP n q i pos = some r) : ES Tryd.prog GG 14 [.agg 5 (L1 (probC q)), .i i, .ints pos] [] (.tup 2 (L1 [.sl 2 r.1.length (rowE iiC r.1), .i r.2])) [] true := by
  refine ot Tryd.func14 fun B N => ?_
  have hself := lostP_all B N q i pos n
  unfold lostP at h
  unfold lostP_l0 at h
  obtain ⟨y1, hy1, h⟩ := bindSome h
  have p := H0.c (fb (checkP_ok hy1) [some (.cells (probC q)), some (.cells [.nils])])
  rcases bifSome h with ⟨c0, h⟩ | ⟨c0, h⟩
  · cases h
    exact el sch_lostP [6, 7] [1] (p.b 17 c0 |>.t) [] H0 [.nils, .i y1] (DLe.tupL (l := [.nils, .i y1]) (l' := [.sl 2 (([] : List (Int × Int)).length) (rowE iiC ([] : List (Int × Int))), .i y1]) rfl ⟨(DLe.sl_nil _ _), (DLe.refl _), trivial⟩)
  · obtain ⟨y2, hy2, h⟩ := bindSome h
    exact gg sch_lostP [1] (p.b 17 c0 |>.c (fb (prunedP_ok hy2) [some (.cells (probC q)), some (.cells [.nils])])) (en n (hself _ _ h n (Nat.le_refl _)))
def becomes_l0 (n : Nat) (q : ProbD) (pos want : List Int) : Option Bool :=
  (pruneP n q 0 pos).bind fun y1 =>
   bif (y1.2 == 0) then
    (same n y1.1 want).bind fun y2 =>
     some y2
   else
    some false
def becomes (n : Nat) (q : ProbD) (pos want : List Int) : Option Bool := becomes_l0 n q pos want
theorem becomes_ok {n : Nat} {q : ProbD} {pos want : List Int} {r : Bool} (h : becomes n q pos want = some r) : ES Tryd.prog GG 20 [.agg 5 (L1 (probC q)), .ints pos, .ints want] [] (.bool r) [] true := by
  refine ot Tryd.func20 fun B N => ?_
  unfold becomes at h
  unfold becomes_l0 at h
  obtain ⟨y1, hy1, h⟩ := bindSome h
  have p := H0.c (fb (pruneP_ok hy1) [some (.cells (probC q))])
  rcases bifSome h with ⟨c0, h⟩ | ⟨c0, h⟩
  · obtain ⟨y2, hy2, h⟩ := bindSome h
    obtain rfl := Option.some.inj h
    exact ee sch0 [6] [] (p.b 16 c0 |>.c (fb (same_ok hy2) [some (.cells (probC q))]))
  · obtain rfl := Option.some.inj h
    exact ee sch0 [6] [] (p.b 16 c0)
end Go.Proofs.YtekkngkphejfcaaDoor
namespace Go.Proofs.YtekkngkphejfcaaDoor
open Go.RowKit
set_option maxRecDepth 100000
set_option maxHeartbeats 40000000
def hp_sane_0 (o0_0 o0_1 : Int) (o0_2 : List Int) (o0_3 : List (List Int)) (o0_4 : List ConsD) : DH := [some (.cells [.i o0_0, .i o0_1, .ints o0_2, .sl 1 o0_3.length (rowE intsC o0_3), .sl 9 o0_4.length (rowE consC o0_4)]), some (.ints ([1, 3, 7] : List Int)), some (.ints ([1, 2, 6] : List Int))]
def hp_sane_1 (o0_0 o0_1 : Int) (o0_2 : List Int) (o0_3 : List (List Int)) (o0_4 : List ConsD) : DH := [some (.cells [.i o0_0, .i o0_1, .ints o0_2, .sl 1 o0_3.length (rowE intsC o0_3), .sl 9 o0_4.length (rowE consC o0_4)]), some (.ints ([1, 3, 7] : List Int)), some (.ints ([1, 2, 6] : List Int)), some (.ints ([2, 3, 3] : List Int)), some (.ints ([2, 1, 1] : List Int))]
def hp_sane_2 : DH := [some (.ints ([1, 3, 3] : List Int)), some (.ints ([1, 2, 2] : List Int)), some (.ints ([2, 2, 3] : List Int)), some (.ints ([0, 0, 0] : List Int))]
def hp_sane_3 : DH := [some (.ints ([7, 7] : List Int)), some (.ints ([3, 3] : List Int)), some (.ints ([7, 7] : List Int)), some (.ints ([3, 6] : List Int))]
def hp_sane_4 : DH := [none, some (.ints ([3, 3, 3] : List Int)), some (.ints ([3, 2, 3] : List Int)), some (.ints ([7, 7] : List Int)), some (.ints ([5, 5] : List Int))]
def hp_sane_5 : DH := [some (.ints ([1, 3] : List Int)), some (.ints ([1, 2] : List Int)), some (.ints ([2, 3, 2] : List Int)), some (.ints ([2, 2, 2] : List Int))]
def hp_sane_6 : DH := [some (.ints ([3, 2, 3] : List Int)), some (.ints ([2, 2, 2] : List Int)), some (.ints ([2, 2, 2] : List Int)), some (.ints ([0, 0, 0] : List Int))]
inductive sanePt where
  | l1 (o0_0 o0_1 : Int) (o0_2 : List Int) (o0_3 : List (List Int)) (o0_4 : List ConsD)
  | l2 (x10 : Bool)
  | l3 (x10 x11 : Bool)
  | l4 (x10 x11 x12 : Bool)
  | l5 (x10 x11 x12 x13 : Bool)
  | l6 (x10 x11 x12 x13 x14 : Bool)
  | l7 (x10 x11 x12 x13 x14 x15 : Bool)
def sane_l1 (n : Nat) (self : sanePt → Option Bool) (o0_0 o0_1 : Int) (o0_2 : List Int) (o0_3 : List (List Int)) (o0_4 : List ConsD) : Option Bool :=
  (becomes n (⟨o0_0, o0_1, o0_2, o0_3, o0_4⟩ : ProbD) ([1, 3, 7] : List Int) ([1, 2, 6] : List Int)).bind fun y1 =>
   bif y1 then
    (lineQ n 3 2 2 2 0 1 1 ([] : List Int) 0 0).bind fun y2 =>
     (becomes n y2 ([2, 3, 3] : List Int) ([2, 1, 1] : List Int)).bind fun y3 =>
      self (.l2 y3)
   else
    self (.l2 false)
def sane_l2 (n : Nat) (self : sanePt → Option Bool) (x10 : Bool) : Option Bool :=
  (lineQ n 3 2 2 2 0 2 3 ([] : List Int) 0 0).bind fun y1 =>
   (becomes n y1 ([1, 3, 3] : List Int) ([1, 2, 2] : List Int)).bind fun y2 =>
    bif y2 then
     (lineQ n 3 2 2 2 0 0 1 ([] : List Int) 0 0).bind fun y3 =>
      (becomes n y3 ([2, 2, 3] : List Int) ([0, 0, 0] : List Int)).bind fun y4 =>
       self (.l3 x10 y4)
    else
     self (.l3 x10 false)
def sane_l3 (n : Nat) (self : sanePt → Option Bool) (x10 x11 : Bool) : Option Bool :=
  (lineQ n 2 3 3 0 0 0 3 ([] : List Int) 0 0).bind fun y1 =>
   (becomes n y1 ([7, 7] : List Int) ([3, 3] : List Int)).bind fun y2 =>
    bif y2 then
     (lineQ n 2 3 4 0 0 0 0 ([] : List Int) 0 0).bind fun y3 =>
      (becomes n y3 ([7, 7] : List Int) ([3, 6] : List Int)).bind fun y4 =>
       self (.l4 x10 x11 y4)
    else
     self (.l4 x10 x11 false)
def sane_l4 (n : Nat) (self : sanePt → Option Bool) (x10 x11 x12 : Bool) : Option Bool :=
  (lineQ n 3 2 5 2 0 0 0 ([2] : List Int) 0 0).bind fun y1 =>
   (becomes n y1 ([3, 3, 3] : List Int) ([3, 2, 3] : List Int)).bind fun y2 =>
    bif y2 then
     (lineQ n 2 3 6 0 0 2 0 ([] : List Int) 0 0).bind fun y3 =>
      (becomes n y3 ([7, 7] : List Int) ([5, 5] : List Int)).bind fun y4 =>
       self (.l5 x10 x11 x12 y4)
    else
     self (.l5 x10 x11 x12 false)
def sane_l5 (n : Nat) (self : sanePt → Option Bool) (x10 x11 x12 x13 : Bool) : Option Bool :=
  (lineQ n 2 2 7 1 1 0 0 ([] : List Int) 0 0).bind fun y1 =>
   (becomes n y1 ([1, 3] : List Int) ([1, 2] : List Int)).bind fun y2 =>
    bif y2 then
     (lineQ n 3 2 8 2 0 0 0 ([] : List Int) 0 0).bind fun y3 =>
      (becomes n y3 ([2, 3, 2] : List Int) ([2, 2, 2] : List Int)).bind fun y4 =>
       self (.l6 x10 x11 x12 x13 y4)
    else
     self (.l6 x10 x11 x12 x13 false)
def sane_l6 (n : Nat) (self : sanePt → Option Bool) (x10 x11 x12 x13 x14 : Bool) : Option Bool :=
  (lineQ n 3 2 9 2 0 0 0 ([] : List Int) 0 0).bind fun y1 =>
   (becomes n y1 ([3, 2, 3] : List Int) ([2, 2, 2] : List Int)).bind fun y2 =>
    bif y2 then
     (lineQ n 3 2 9 2 0 0 0 ([] : List Int) 0 0).bind fun y3 =>
      (becomes n y3 ([2, 2, 2] : List Int) ([0, 0, 0] : List Int)).bind fun y4 =>
       self (.l7 x10 x11 x12 x13 x14 y4)
    else
     self (.l7 x10 x11 x12 x13 x14 false)
def sane_l7 (n : Nat) (self : sanePt → Option Bool) (x10 x11 x12 x13 x14 x15 : Bool) : Option Bool :=
  bif x10 then
   bif x11 then
    bif x12 then
     bif x13 then
      bif x14 then
       some x15
      else
       some false
     else
      some false
    else
     some false
   else
    some false
  else
   some false
def sane_l0 (n : Nat) (self : sanePt → Option Bool) : Option Bool :=
  (lineQ n 3 3 1 0 0 0 0 ([] : List Int) 0 0).bind fun y1 =>
   (lostP n y1 0 ([1, 3, 7] : List Int)).bind fun y2 =>
    (lineQ n 2 3 3 0 0 0 3 ([] : List Int) 0 0).bind fun y3 =>
     (levelP n y3 0).bind fun y4 =>
      (pruneP n y1 1 ([1, 3, 7] : List Int)).bind fun y5 =>
       (levelP n (⟨0, 0, ([] : List Int), ([] : List (List Int)), ([] : List ConsD)⟩ : ProbD) 0).bind fun y6 =>
        bif (y2.2 != 0) then
         some false
        else
         bif (y4.2 != 0) then
          some false
         else
          bif (y4.1 != 2) then
           some false
          else
           bif (y5.2 != 260) then
            some false
           else
            bif (y6.2 != 191) then
             some false
            else
             (samePairs n y2.1 ([(1, 0), (2, 0)] : List (Int × Int))).bind fun y7 =>
              bif (!y7) then
               some false
              else
               self (.l1 y1.cells y1.symbols y1.values y1.nbrs y1.cons)
def sane_m : Nat → sanePt → Option Bool
  | 0, _ => none
  | n + 1, .l1 o0_0 o0_1 o0_2 o0_3 o0_4 => sane_l1 n (sane_m n) o0_0 o0_1 o0_2 o0_3 o0_4
  | n + 1, .l2 x10 => sane_l2 n (sane_m n) x10
  | n + 1, .l3 x10 x11 => sane_l3 n (sane_m n) x10 x11
  | n + 1, .l4 x10 x11 x12 => sane_l4 n (sane_m n) x10 x11 x12
  | n + 1, .l5 x10 x11 x12 x13 => sane_l5 n (sane_m n) x10 x11 x12 x13
  | n + 1, .l6 x10 x11 x12 x13 x14 => sane_l6 n (sane_m n) x10 x11 x12 x13 x14
  | n + 1, .l7 x10 x11 x12 x13 x14 x15 => sane_l7 n (sane_m n) x10 x11 x12 x13 x14 x15
def sane (n : Nat) : Option Bool := sane_l0 n (sane_m n)
/-- What the points stand for. -/
def sane_at (n : Nat) (B : Nat) (N : Yard Tryd.prog GG 0) (r : Bool) : sanePt → Prop
  | .l1 o0_0 o0_1 o0_2 o0_3 o0_4 => TrK Tryd.prog GG Fence.wide (some B) 0 N (Fin Tryd.prog Tryd.f7 0 (.bool r) []) (atGC (bodyC Tryd.f7) 8 []) ⟨frm 155 [(1, .ref 0 0)], [some (.cells [.i o0_0, .i o0_1, .ints o0_2, .sl 1 o0_3.length (rowE intsC o0_3), .sl 9 o0_4.length (rowE consC o0_4)])]⟩
  | .l2 x10 => TrK Tryd.prog GG Fence.wide (some B) 0 N (Fin Tryd.prog Tryd.f7 0 (.bool r) []) (atGC (bodyC Tryd.f7) 9 []) ⟨frm 155 [(10, .bool x10)], []⟩
  | .l3 x10 x11 => TrK Tryd.prog GG Fence.wide (some B) 0 N (Fin Tryd.prog Tryd.f7 0 (.bool r) []) (atGC (bodyC Tryd.f7) 10 []) ⟨frm 155 [(10, .bool x10), (11, .bool x11)], []⟩
  | .l4 x10 x11 x12 => TrK Tryd.prog GG Fence.wide (some B) 0 N (Fin Tryd.prog Tryd.f7 0 (.bool r) []) (atGC (bodyC Tryd.f7) 11 []) ⟨frm 155 [(10, .bool x10), (11, .bool x11), (12, .bool x12)], []⟩
  | .l5 x10 x11 x12 x13 => TrK Tryd.prog GG Fence.wide (some B) 0 N (Fin Tryd.prog Tryd.f7 0 (.bool r) []) (atGC (bodyC Tryd.f7) 12 []) ⟨frm 155 [(10, .bool x10), (11, .bool x11), (12, .bool x12), (13, .bool x13)], []⟩
  | .l6 x10 x11 x12 x13 x14 => TrK Tryd.prog GG Fence.wide (some B) 0 N (Fin Tryd.prog Tryd.f7 0 (.bool r) []) (atGC (bodyC Tryd.f7) 13 []) ⟨frm 155 [(10, .bool x10), (11, .bool x11), (12, .bool x12), (13, .bool x13), (14, .bool x14)], []⟩
  | .l7 x10 x11 x12 x13 x14 x15 => TrK Tryd.prog GG Fence.wide (some B) 0 N (Fin Tryd.prog Tryd.f7 0 (.bool r) []) (atGC (bodyC Tryd.f7) 14 []) ⟨frm 155 [(10, .bool x10), (11, .bool x11), (12, .bool x12), (13, .bool x13), (14, .bool x14), (15, .bool x15)], []⟩
theorem sane_all (B : Nat) (N : Yard Tryd.prog GG 0) : ∀ (n : Nat) (pt : sanePt) (r : Bool), sane_m n pt = some r → sane_at n B N r pt := by
  intro n; induction n with
  | zero => intro _ _ h; cases h
  | succ n hself =>
   intro pt r h
   cases pt
   case l1 o0_0 o0_1 o0_2 o0_3 o0_4 =>
    have h : sane_l1 n (sane_m n) o0_0 o0_1 o0_2 o0_3 o0_4 = some r := h
    show TrK _ _ _ _ _ _ _ _ _
    unfold sane_l1 at h
    obtain ⟨y1, hy1, h⟩ := bindSome h
    have p := H0.c (sb [.agg 5 (L1 [.i o0_0, .i o0_1, .ints o0_2, .sl 1 o0_3.length (rowE intsC o0_3), .sl 9 o0_4.length (rowE consC o0_4)]), .msl 1 1 0 3, .msl 2 1 0 3] (becomes_ok hy1) (hp_sane_0 o0_0 o0_1 o0_2 o0_3 o0_4) ⟨Snap.plain (by kernel_rfl), Snap.ints rfl (by decide : 3 = ([1, 3, 7] : List Int).length), Snap.ints rfl (by decide : 3 = ([1, 2, 6] : List Int).length), trivial⟩)
    rcases bifSome h with ⟨c0, h⟩ | ⟨c0, h⟩
    · obtain ⟨y2, hy2, h⟩ := bindSome h
      obtain ⟨y3, hy3, h⟩ := bindSome h
      exact gg (stopAt 14 (stopAt 13 (stopAt 12 (stopAt 11 (stopAt 10 (stopAt 9 sch0)))))) [] (p.b 70 c0 |>.c (fb (ES.argsLe (ds := [.i 3, .i 2, .agg 9 (L1 [.i 2, .nils, .i 2, .i 0, .i 1, .i 1, .nils, .i 0, .i 0])]) (lineQ_ok hy2) ⟨dle_refl, dle_refl, (DLe.aggL (l := [.i 2, .nils, .i 2, .i 0, .i 1, .i 1, .nils, .i 0, .i 0]) (l' := [.i 2, .nils, .i 2, .i 0, .i 1, .i 1, .ints ([] : List Int), .i 0, .i 0]) rfl ⟨(DLe.refl _), (DLe.refl _), (DLe.refl _), (DLe.refl _), (DLe.refl _), (DLe.refl _), DLe.ints_nil, (DLe.refl _), (DLe.refl _), trivial⟩), trivial⟩) (hp_sane_0 o0_0 o0_1 o0_2 o0_3 o0_4)) |>.c (sb [.agg 5 (L1 (probC y2)), .msl 3 1 0 3, .msl 4 1 0 3] (becomes_ok hy3) (hp_sane_1 o0_0 o0_1 o0_2 o0_3 o0_4) ⟨Snap.plain (by kernel_rfl), Snap.ints rfl (by decide : 3 = ([2, 3, 3] : List Int).length), Snap.ints rfl (by decide : 3 = ([2, 1, 1] : List Int).length), trivial⟩)) (hself _ _ h)
    · exact gg (stopAt 14 (stopAt 13 (stopAt 12 (stopAt 11 (stopAt 10 (stopAt 9 sch0)))))) [] (p.b 70 c0) (hself _ _ h)
   case l2 x10 =>
    have h : sane_l2 n (sane_m n) x10 = some r := h
    show TrK _ _ _ _ _ _ _ _ _
    unfold sane_l2 at h
    obtain ⟨y1, hy1, h⟩ := bindSome h
    obtain ⟨y2, hy2, h⟩ := bindSome h
    have p := H0.c (fb (ES.argsLe (ds := [.i 3, .i 2, .agg 9 (L1 [.i 2, .nils, .i 2, .i 0, .i 2, .i 3, .nils, .i 0, .i 0])]) (lineQ_ok hy1) ⟨dle_refl, dle_refl, (DLe.aggL (l := [.i 2, .nils, .i 2, .i 0, .i 2, .i 3, .nils, .i 0, .i 0]) (l' := [.i 2, .nils, .i 2, .i 0, .i 2, .i 3, .ints ([] : List Int), .i 0, .i 0]) rfl ⟨(DLe.refl _), (DLe.refl _), (DLe.refl _), (DLe.refl _), (DLe.refl _), (DLe.refl _), DLe.ints_nil, (DLe.refl _), (DLe.refl _), trivial⟩), trivial⟩) []) |>.c (sb [.agg 5 (L1 (probC y1)), .msl 0 1 0 3, .msl 1 1 0 3] (becomes_ok hy2) [some (.ints ([1, 3, 3] : List Int)), some (.ints ([1, 2, 2] : List Int))] ⟨Snap.plain (by kernel_rfl), Snap.ints rfl (by decide : 3 = ([1, 3, 3] : List Int).length), Snap.ints rfl (by decide : 3 = ([1, 2, 2] : List Int).length), trivial⟩)
    rcases bifSome h with ⟨c0, h⟩ | ⟨c0, h⟩
    · obtain ⟨y3, hy3, h⟩ := bindSome h
      obtain ⟨y4, hy4, h⟩ := bindSome h
      exact gg (stopAt 14 (stopAt 13 (stopAt 12 (stopAt 11 (stopAt 10 (stopAt 8 sch0)))))) [] (p.b 82 c0 |>.c (fb (ES.argsLe (ds := [.i 3, .i 2, .agg 9 (L1 [.i 2, .nils, .i 2, .i 0, .i 0, .i 1, .nils, .i 0, .i 0])]) (lineQ_ok hy3) ⟨dle_refl, dle_refl, (DLe.aggL (l := [.i 2, .nils, .i 2, .i 0, .i 0, .i 1, .nils, .i 0, .i 0]) (l' := [.i 2, .nils, .i 2, .i 0, .i 0, .i 1, .ints ([] : List Int), .i 0, .i 0]) rfl ⟨(DLe.refl _), (DLe.refl _), (DLe.refl _), (DLe.refl _), (DLe.refl _), (DLe.refl _), DLe.ints_nil, (DLe.refl _), (DLe.refl _), trivial⟩), trivial⟩) [some (.ints ([1, 3, 3] : List Int)), some (.ints ([1, 2, 2] : List Int))]) |>.c (sb [.agg 5 (L1 (probC y3)), .msl 2 1 0 3, .msl 3 1 0 3] (becomes_ok hy4) hp_sane_2 ⟨Snap.plain (by kernel_rfl), Snap.ints rfl (by decide : 3 = ([2, 2, 3] : List Int).length), Snap.ints rfl (by decide : 3 = ([0, 0, 0] : List Int).length), trivial⟩)) (hself _ _ h)
    · exact gg (stopAt 14 (stopAt 13 (stopAt 12 (stopAt 11 (stopAt 10 (stopAt 8 sch0)))))) [] (p.b 82 c0) (hself _ _ h)
   case l3 x10 x11 =>
    have h : sane_l3 n (sane_m n) x10 x11 = some r := h
    show TrK _ _ _ _ _ _ _ _ _
    unfold sane_l3 at h
    obtain ⟨y1, hy1, h⟩ := bindSome h
    obtain ⟨y2, hy2, h⟩ := bindSome h
    have p := H0.c (fb (ES.argsLe (ds := [.i 2, .i 3, .agg 9 (L1 [.i 3, .nils, .i 0, .i 0, .i 0, .i 3, .nils, .i 0, .i 0])]) (lineQ_ok hy1) ⟨dle_refl, dle_refl, (DLe.aggL (l := [.i 3, .nils, .i 0, .i 0, .i 0, .i 3, .nils, .i 0, .i 0]) (l' := [.i 3, .nils, .i 0, .i 0, .i 0, .i 3, .ints ([] : List Int), .i 0, .i 0]) rfl ⟨(DLe.refl _), (DLe.refl _), (DLe.refl _), (DLe.refl _), (DLe.refl _), (DLe.refl _), DLe.ints_nil, (DLe.refl _), (DLe.refl _), trivial⟩), trivial⟩) []) |>.c (sb [.agg 5 (L1 (probC y1)), .msl 0 1 0 2, .msl 1 1 0 2] (becomes_ok hy2) [some (.ints ([7, 7] : List Int)), some (.ints ([3, 3] : List Int))] ⟨Snap.plain (by kernel_rfl), Snap.ints rfl (by decide : 2 = ([7, 7] : List Int).length), Snap.ints rfl (by decide : 2 = ([3, 3] : List Int).length), trivial⟩)
    rcases bifSome h with ⟨c0, h⟩ | ⟨c0, h⟩
    · obtain ⟨y3, hy3, h⟩ := bindSome h
      obtain ⟨y4, hy4, h⟩ := bindSome h
      exact gg (stopAt 14 (stopAt 13 (stopAt 12 (stopAt 11 (stopAt 9 (stopAt 8 sch0)))))) [] (p.b 94 c0 |>.c (fb (ES.argsLe (ds := [.i 2, .i 3, .agg 9 (L1 [.i 4, .nils, .i 0, .i 0, .i 0, .i 0, .nils, .i 0, .i 0])]) (lineQ_ok hy3) ⟨dle_refl, dle_refl, (DLe.aggL (l := [.i 4, .nils, .i 0, .i 0, .i 0, .i 0, .nils, .i 0, .i 0]) (l' := [.i 4, .nils, .i 0, .i 0, .i 0, .i 0, .ints ([] : List Int), .i 0, .i 0]) rfl ⟨(DLe.refl _), (DLe.refl _), (DLe.refl _), (DLe.refl _), (DLe.refl _), (DLe.refl _), DLe.ints_nil, (DLe.refl _), (DLe.refl _), trivial⟩), trivial⟩) [some (.ints ([7, 7] : List Int)), some (.ints ([3, 3] : List Int))]) |>.c (sb [.agg 5 (L1 (probC y3)), .msl 2 1 0 2, .msl 3 1 0 2] (becomes_ok hy4) hp_sane_3 ⟨Snap.plain (by kernel_rfl), Snap.ints rfl (by decide : 2 = ([7, 7] : List Int).length), Snap.ints rfl (by decide : 2 = ([3, 6] : List Int).length), trivial⟩)) (hself _ _ h)
    · exact gg (stopAt 14 (stopAt 13 (stopAt 12 (stopAt 11 (stopAt 9 (stopAt 8 sch0)))))) [] (p.b 94 c0) (hself _ _ h)
   case l4 x10 x11 x12 =>
    have h : sane_l4 n (sane_m n) x10 x11 x12 = some r := h
    show TrK _ _ _ _ _ _ _ _ _
    unfold sane_l4 at h
    obtain ⟨y1, hy1, h⟩ := bindSome h
    obtain ⟨y2, hy2, h⟩ := bindSome h
    have p := H0.z 102 0 |>.g (by decide : 1 = ([2] : List Int).length) |>.c (fb (lineQ_ok hy1) [none]) |>.c (sb [.agg 5 (L1 (probC y1)), .msl 1 1 0 3, .msl 2 1 0 3] (becomes_ok hy2) [none, some (.ints ([3, 3, 3] : List Int)), some (.ints ([3, 2, 3] : List Int))] ⟨Snap.plain (by kernel_rfl), Snap.ints rfl (by decide : 3 = ([3, 3, 3] : List Int).length), Snap.ints rfl (by decide : 3 = ([3, 2, 3] : List Int).length), trivial⟩)
    rcases bifSome h with ⟨c0, h⟩ | ⟨c0, h⟩
    · obtain ⟨y3, hy3, h⟩ := bindSome h
      obtain ⟨y4, hy4, h⟩ := bindSome h
      exact gg (stopAt 14 (stopAt 13 (stopAt 12 (stopAt 10 (stopAt 9 (stopAt 8 sch0)))))) [] (p.b 107 c0 |>.c (fb (ES.argsLe (ds := [.i 2, .i 3, .agg 9 (L1 [.i 6, .nils, .i 0, .i 0, .i 2, .i 0, .nils, .i 0, .i 0])]) (lineQ_ok hy3) ⟨dle_refl, dle_refl, (DLe.aggL (l := [.i 6, .nils, .i 0, .i 0, .i 2, .i 0, .nils, .i 0, .i 0]) (l' := [.i 6, .nils, .i 0, .i 0, .i 2, .i 0, .ints ([] : List Int), .i 0, .i 0]) rfl ⟨(DLe.refl _), (DLe.refl _), (DLe.refl _), (DLe.refl _), (DLe.refl _), (DLe.refl _), DLe.ints_nil, (DLe.refl _), (DLe.refl _), trivial⟩), trivial⟩) [none, some (.ints ([3, 3, 3] : List Int)), some (.ints ([3, 2, 3] : List Int))]) |>.c (sb [.agg 5 (L1 (probC y3)), .msl 3 1 0 2, .msl 4 1 0 2] (becomes_ok hy4) hp_sane_4 ⟨Snap.plain (by kernel_rfl), Snap.ints rfl (by decide : 2 = ([7, 7] : List Int).length), Snap.ints rfl (by decide : 2 = ([5, 5] : List Int).length), trivial⟩)) (hself _ _ h)
    · exact gg (stopAt 14 (stopAt 13 (stopAt 12 (stopAt 10 (stopAt 9 (stopAt 8 sch0)))))) [] (p.b 107 c0) (hself _ _ h)
   case l5 x10 x11 x12 x13 =>
    have h : sane_l5 n (sane_m n) x10 x11 x12 x13 = some r := h
    show TrK _ _ _ _ _ _ _ _ _
    unfold sane_l5 at h
    obtain ⟨y1, hy1, h⟩ := bindSome h
    obtain ⟨y2, hy2, h⟩ := bindSome h
    have p := H0.c (fb (ES.argsLe (ds := [.i 2, .i 2, .agg 9 (L1 [.i 7, .nils, .i 1, .i 1, .i 0, .i 0, .nils, .i 0, .i 0])]) (lineQ_ok hy1) ⟨dle_refl, dle_refl, (DLe.aggL (l := [.i 7, .nils, .i 1, .i 1, .i 0, .i 0, .nils, .i 0, .i 0]) (l' := [.i 7, .nils, .i 1, .i 1, .i 0, .i 0, .ints ([] : List Int), .i 0, .i 0]) rfl ⟨(DLe.refl _), (DLe.refl _), (DLe.refl _), (DLe.refl _), (DLe.refl _), (DLe.refl _), DLe.ints_nil, (DLe.refl _), (DLe.refl _), trivial⟩), trivial⟩) []) |>.c (sb [.agg 5 (L1 (probC y1)), .msl 0 1 0 2, .msl 1 1 0 2] (becomes_ok hy2) [some (.ints ([1, 3] : List Int)), some (.ints ([1, 2] : List Int))] ⟨Snap.plain (by kernel_rfl), Snap.ints rfl (by decide : 2 = ([1, 3] : List Int).length), Snap.ints rfl (by decide : 2 = ([1, 2] : List Int).length), trivial⟩)
    rcases bifSome h with ⟨c0, h⟩ | ⟨c0, h⟩
    · obtain ⟨y3, hy3, h⟩ := bindSome h
      obtain ⟨y4, hy4, h⟩ := bindSome h
      exact gg (stopAt 14 (stopAt 13 (stopAt 11 (stopAt 10 (stopAt 9 (stopAt 8 sch0)))))) [] (p.b 119 c0 |>.c (fb (ES.argsLe (ds := [.i 3, .i 2, .agg 9 (L1 [.i 8, .nils, .i 2, .i 0, .i 0, .i 0, .nils, .i 0, .i 0])]) (lineQ_ok hy3) ⟨dle_refl, dle_refl, (DLe.aggL (l := [.i 8, .nils, .i 2, .i 0, .i 0, .i 0, .nils, .i 0, .i 0]) (l' := [.i 8, .nils, .i 2, .i 0, .i 0, .i 0, .ints ([] : List Int), .i 0, .i 0]) rfl ⟨(DLe.refl _), (DLe.refl _), (DLe.refl _), (DLe.refl _), (DLe.refl _), (DLe.refl _), DLe.ints_nil, (DLe.refl _), (DLe.refl _), trivial⟩), trivial⟩) [some (.ints ([1, 3] : List Int)), some (.ints ([1, 2] : List Int))]) |>.c (sb [.agg 5 (L1 (probC y3)), .msl 2 1 0 3, .msl 3 1 0 3] (becomes_ok hy4) hp_sane_5 ⟨Snap.plain (by kernel_rfl), Snap.ints rfl (by decide : 3 = ([2, 3, 2] : List Int).length), Snap.ints rfl (by decide : 3 = ([2, 2, 2] : List Int).length), trivial⟩)) (hself _ _ h)
    · exact gg (stopAt 14 (stopAt 13 (stopAt 11 (stopAt 10 (stopAt 9 (stopAt 8 sch0)))))) [] (p.b 119 c0) (hself _ _ h)
   case l6 x10 x11 x12 x13 x14 =>
    have h : sane_l6 n (sane_m n) x10 x11 x12 x13 x14 = some r := h
    show TrK _ _ _ _ _ _ _ _ _
    unfold sane_l6 at h
    obtain ⟨y1, hy1, h⟩ := bindSome h
    obtain ⟨y2, hy2, h⟩ := bindSome h
    have p := H0.c (fb (ES.argsLe (ds := [.i 3, .i 2, .agg 9 (L1 [.i 9, .nils, .i 2, .i 0, .i 0, .i 0, .nils, .i 0, .i 0])]) (lineQ_ok hy1) ⟨dle_refl, dle_refl, (DLe.aggL (l := [.i 9, .nils, .i 2, .i 0, .i 0, .i 0, .nils, .i 0, .i 0]) (l' := [.i 9, .nils, .i 2, .i 0, .i 0, .i 0, .ints ([] : List Int), .i 0, .i 0]) rfl ⟨(DLe.refl _), (DLe.refl _), (DLe.refl _), (DLe.refl _), (DLe.refl _), (DLe.refl _), DLe.ints_nil, (DLe.refl _), (DLe.refl _), trivial⟩), trivial⟩) []) |>.c (sb [.agg 5 (L1 (probC y1)), .msl 0 1 0 3, .msl 1 1 0 3] (becomes_ok hy2) [some (.ints ([3, 2, 3] : List Int)), some (.ints ([2, 2, 2] : List Int))] ⟨Snap.plain (by kernel_rfl), Snap.ints rfl (by decide : 3 = ([3, 2, 3] : List Int).length), Snap.ints rfl (by decide : 3 = ([2, 2, 2] : List Int).length), trivial⟩)
    rcases bifSome h with ⟨c0, h⟩ | ⟨c0, h⟩
    · obtain ⟨y3, hy3, h⟩ := bindSome h
      obtain ⟨y4, hy4, h⟩ := bindSome h
      exact gg (stopAt 14 (stopAt 12 (stopAt 11 (stopAt 10 (stopAt 9 (stopAt 8 sch0)))))) [] (p.b 131 c0 |>.c (fb (ES.argsLe (ds := [.i 3, .i 2, .agg 9 (L1 [.i 9, .nils, .i 2, .i 0, .i 0, .i 0, .nils, .i 0, .i 0])]) (lineQ_ok hy3) ⟨dle_refl, dle_refl, (DLe.aggL (l := [.i 9, .nils, .i 2, .i 0, .i 0, .i 0, .nils, .i 0, .i 0]) (l' := [.i 9, .nils, .i 2, .i 0, .i 0, .i 0, .ints ([] : List Int), .i 0, .i 0]) rfl ⟨(DLe.refl _), (DLe.refl _), (DLe.refl _), (DLe.refl _), (DLe.refl _), (DLe.refl _), DLe.ints_nil, (DLe.refl _), (DLe.refl _), trivial⟩), trivial⟩) [some (.ints ([3, 2, 3] : List Int)), some (.ints ([2, 2, 2] : List Int))]) |>.c (sb [.agg 5 (L1 (probC y3)), .msl 2 1 0 3, .msl 3 1 0 3] (becomes_ok hy4) hp_sane_6 ⟨Snap.plain (by kernel_rfl), Snap.ints rfl (by decide : 3 = ([2, 2, 2] : List Int).length), Snap.ints rfl (by decide : 3 = ([0, 0, 0] : List Int).length), trivial⟩)) (hself _ _ h)
    · exact gg (stopAt 14 (stopAt 12 (stopAt 11 (stopAt 10 (stopAt 9 (stopAt 8 sch0)))))) [] (p.b 131 c0) (hself _ _ h)
   case l7 x10 x11 x12 x13 x14 x15 =>
    have h : sane_l7 n (sane_m n) x10 x11 x12 x13 x14 x15 = some r := h
    show TrK _ _ _ _ _ _ _ _ _
    unfold sane_l7 at h
    rcases bifSome h with ⟨c0, h⟩ | ⟨c0, h⟩
    · have p := H0.b 139 c0
      rcases bifSome h with ⟨c1, h⟩ | ⟨c1, h⟩
      · have p := p.b 141 c1
        rcases bifSome h with ⟨c2, h⟩ | ⟨c2, h⟩
        · have p := p.b 144 c2
          rcases bifSome h with ⟨c3, h⟩ | ⟨c3, h⟩
          · have p := p.b 147 c3
            rcases bifSome h with ⟨c4, h⟩ | ⟨c4, h⟩
            · obtain rfl := Option.some.inj h
              exact ee (stopAt 13 (stopAt 12 (stopAt 11 (stopAt 10 (stopAt 9 (stopAt 8 sch0)))))) [0] [] (p.b 150 c4)
            · obtain rfl := Option.some.inj h
              exact ee (stopAt 13 (stopAt 12 (stopAt 11 (stopAt 10 (stopAt 9 (stopAt 8 sch0)))))) [0] [] (p.b 150 c4)
          · obtain rfl := Option.some.inj h
            exact ee (stopAt 13 (stopAt 12 (stopAt 11 (stopAt 10 (stopAt 9 (stopAt 8 sch0)))))) [0] [] (p.b 147 c3)
        · obtain rfl := Option.some.inj h
          exact ee (stopAt 13 (stopAt 12 (stopAt 11 (stopAt 10 (stopAt 9 (stopAt 8 sch0)))))) [0] [] (p.b 144 c2)
      · obtain rfl := Option.some.inj h
        exact ee (stopAt 13 (stopAt 12 (stopAt 11 (stopAt 10 (stopAt 9 (stopAt 8 sch0)))))) [0] [] (p.b 141 c1)
    · obtain rfl := Option.some.inj h
      exact ee (stopAt 13 (stopAt 12 (stopAt 11 (stopAt 10 (stopAt 9 (stopAt 8 sch0)))))) [0] [] (H0.b 139 c0)
theorem sane_ok {n : Nat} {r : Bool} (h : sane n = some r) : ES Tryd.prog GG 7 [] [] (.bool r) [] true := by
  refine ot Tryd.func7 fun B N => ?_
  have hself := sane_all B N n
  unfold sane at h
  unfold sane_l0 at h
  obtain ⟨y1, hy1, h⟩ := bindSome h
  obtain ⟨y2, hy2, h⟩ := bindSome h
  obtain ⟨y3, hy3, h⟩ := bindSome h
  obtain ⟨y4, hy4, h⟩ := bindSome h
  obtain ⟨y5, hy5, h⟩ := bindSome h
  obtain ⟨y6, hy6, h⟩ := bindSome h
  have p := H0.c (fb (ES.argsLe (ds := [.i 3, .i 3, .agg 9 (L1 [.i 1, .nils, .i 0, .i 0, .i 0, .i 0, .nils, .i 0, .i 0])]) (lineQ_ok hy1) ⟨dle_refl, dle_refl, (DLe.aggL (l := [.i 1, .nils, .i 0, .i 0, .i 0, .i 0, .nils, .i 0, .i 0]) (l' := [.i 1, .nils, .i 0, .i 0, .i 0, .i 0, .ints ([] : List Int), .i 0, .i 0]) rfl ⟨(DLe.refl _), (DLe.refl _), (DLe.refl _), (DLe.refl _), (DLe.refl _), (DLe.refl _), DLe.ints_nil, (DLe.refl _), (DLe.refl _), trivial⟩), trivial⟩) []) |>.t |>.z 20 1 |>.g (by decide : 3 = ([1, 3, 7] : List Int).length) |>.c (fb (lostP_ok hy2) [some (.cells (probC y1)), none]) |>.c (fb (ES.argsLe (ds := [.i 2, .i 3, .agg 9 (L1 [.i 3, .nils, .i 0, .i 0, .i 0, .i 3, .nils, .i 0, .i 0])]) (lineQ_ok hy3) ⟨dle_refl, dle_refl, (DLe.aggL (l := [.i 3, .nils, .i 0, .i 0, .i 0, .i 3, .nils, .i 0, .i 0]) (l' := [.i 3, .nils, .i 0, .i 0, .i 0, .i 3, .ints ([] : List Int), .i 0, .i 0]) rfl ⟨(DLe.refl _), (DLe.refl _), (DLe.refl _), (DLe.refl _), (DLe.refl _), (DLe.refl _), DLe.ints_nil, (DLe.refl _), (DLe.refl _), trivial⟩), trivial⟩) [some (.cells (probC y1)), none]) |>.c (fb (levelP_ok hy4) [some (.cells (probC y1)), none]) |>.z 32 2 |>.g (by decide : 3 = ([1, 3, 7] : List Int).length) |>.c (fb (pruneP_ok hy5) [some (.cells (probC y1)), none, none]) |>.c (sb [.agg 5 (L1 [.i 0, .i 0, .nils, .nils, .nils]), .i 0] (levelP_ok hy6) [some (.cells (probC y1)), none, none] ⟨(Snap.dle (by kernel_rfl) (DLe.aggL (l := [.i 0, .i 0, .nils, .nils, .nils]) (l' := [.i 0, .i 0, .ints ([] : List Int), .sl 1 (([] : List (List Int)).length) (rowE intsC ([] : List (List Int))), .sl 9 (([] : List ConsD).length) (rowE consC ([] : List ConsD))]) rfl ⟨(DLe.refl _), (DLe.refl _), DLe.ints_nil, (DLe.sl_nil _ _), (DLe.sl_nil _ _), trivial⟩)), Snap.plain (by kernel_rfl), trivial⟩)
  rcases bifSome h with ⟨c0, h⟩ | ⟨c0, h⟩
  · obtain rfl := Option.some.inj h
    exact ee (stopAt 14 (stopAt 13 (stopAt 12 (stopAt 11 (stopAt 10 (stopAt 9 (stopAt 8 sch0))))))) [0] [] (p.b 42 c0)
  · have p := p.b 42 c0
    rcases bifSome h with ⟨c1, h⟩ | ⟨c1, h⟩
    · obtain rfl := Option.some.inj h
      exact ee (stopAt 14 (stopAt 13 (stopAt 12 (stopAt 11 (stopAt 10 (stopAt 9 (stopAt 8 sch0))))))) [0] [] (p.b 45 c1)
    · have p := p.b 45 c1
      rcases bifSome h with ⟨c2, h⟩ | ⟨c2, h⟩
      · obtain rfl := Option.some.inj h
        exact ee (stopAt 14 (stopAt 13 (stopAt 12 (stopAt 11 (stopAt 10 (stopAt 9 (stopAt 8 sch0))))))) [0] [] (p.b 49 c2)
      · have p := p.b 49 c2
        rcases bifSome h with ⟨c3, h⟩ | ⟨c3, h⟩
        · obtain rfl := Option.some.inj h
          exact ee (stopAt 14 (stopAt 13 (stopAt 12 (stopAt 11 (stopAt 10 (stopAt 9 (stopAt 8 sch0))))))) [0] [] (p.b 53 c3)
        · have p := p.b 53 c3
          rcases bifSome h with ⟨c4, h⟩ | ⟨c4, h⟩
          · obtain rfl := Option.some.inj h
            exact ee (stopAt 14 (stopAt 13 (stopAt 12 (stopAt 11 (stopAt 10 (stopAt 9 (stopAt 8 sch0))))))) [0] [] (p.b 57 c4)
          · obtain ⟨y7, hy7, h⟩ := bindSome h
            have p := p.b 57 c4 |>.a 63 3 2 (rows_build (c := iiC) (L := ([(1, 0), (2, 0)] : List (Int × Int))) (vals := [.agg 2 (L1 [.i 1, .i 0]), .agg 2 (L1 [.i 2, .i 0])]) rfl ⟨⟨_, rfl, ⟨dle_refl, dle_refl, trivial⟩⟩, ⟨_, rfl, ⟨dle_refl, dle_refl, trivial⟩⟩, trivial⟩) |>.z 63 3 |>.g (by decide : 2 = ([(1, 0), (2, 0)] : List (Int × Int)).length) |>.c (fb (samePairs_ok hy7) [some (.cells (probC y1)), none, none, none])
            rcases bifSome h with ⟨c5, h⟩ | ⟨c5, h⟩
            · obtain rfl := Option.some.inj h
              exact ee (stopAt 14 (stopAt 13 (stopAt 12 (stopAt 11 (stopAt 10 (stopAt 9 (stopAt 8 sch0))))))) [0] [] (p.b 65 c5)
            · exact gg (stopAt 14 (stopAt 13 (stopAt 12 (stopAt 11 (stopAt 10 (stopAt 9 (stopAt 8 sch0))))))) [0] (p.b 65 c5) (hself _ _ h)
def lawLevel_l0 (n : Nat) (q : ProbD) (i : Int) : Option Bool :=
  (sane n).bind fun y1 =>
   bif (!y1) then
    some false
   else
    (few n q ([] : List Int)).bind fun y2 =>
     bif (!y2) then
      some true
     else
      (levelP n q i).bind fun y3 =>
       (rlevel n q i).bind fun y4 =>
        bif (y3.1 == y4.1) then
         some (y3.2 == y4.2)
        else
         some false
def lawLevel (n : Nat) (q : ProbD) (i : Int) : Option Bool := lawLevel_l0 n q i
theorem lawLevel_ok {n : Nat} {q : ProbD} {i : Int} {r : Bool} (h : lawLevel n q i = some r) : ES Tryd.prog GG 3 [.agg 5 (L1 (probC q)), .i i] [] (.bool r) [] true := by
  refine ot Tryd.func3 fun B N => ?_
  unfold lawLevel at h
  unfold lawLevel_l0 at h
  obtain ⟨y1, hy1, h⟩ := bindSome h
  have p := H0.c (fb (sane_ok hy1) [some (.cells (probC q))])
  rcases bifSome h with ⟨c0, h⟩ | ⟨c0, h⟩
  · obtain rfl := Option.some.inj h
    exact ee sch0 [4] [] (p.b 10 c0)
  · obtain ⟨y2, hy2, h⟩ := bindSome h
    have p := p.b 10 c0 |>.c (sb [.agg 5 (L1 (probC q)), .nils] (few_ok hy2) [some (.cells (probC q))] ⟨Snap.plain (by kernel_rfl), Snap.nils, trivial⟩)
    rcases bifSome h with ⟨c1, h⟩ | ⟨c1, h⟩
    · obtain rfl := Option.some.inj h
      exact ee sch0 [4] [] (p.b 13 c1)
    · obtain ⟨y3, hy3, h⟩ := bindSome h
      obtain ⟨y4, hy4, h⟩ := bindSome h
      have p := p.b 13 c1 |>.c (fb (levelP_ok hy3) [some (.cells (probC q))]) |>.c (fb (rlevel_ok hy4) [some (.cells (probC q))])
      rcases bifSome h with ⟨c2, h⟩ | ⟨c2, h⟩
      · cases h
        exact ee sch0 [4] [] (p.b 28 c2)
      · obtain rfl := Option.some.inj h
        exact ee sch0 [4] [] (p.b 28 c2)
end Go.Proofs.YtekkngkphejfcaaDoor
namespace Go.Proofs.YtekkngkphejfcaaDoor
open Go.ChangeShapes Go.WideShapes Go.ChangeAt Go.RowKit
/-- Cells stand for values of the view. -/
def CellsR (w : World) (cs : List Value) (l : List DV) : Prop := cs.length = l.length ∧ ∀ j, j < l.length → RepV (fun _ => False) w (l.getD j .any) [] (cs.getD j undef)
/-- Whatever reads as data of a type, in m cells, stands for some element. -/
def Rd (P : Program) (t : TypeId) (m : Nat) {α : Type} (c : α → List DV) : Prop := (∀ x, (c x).length = m) ∧ P.cellsOf t = m ∧ ∀ {H : Type} (enc : TypeId × Value → H) (w : World) (fuel : Nat) (cs : List Value) (x : DataW H × List MemPlace), DataW.trod enc P w 0 (fun _ => true) true fuel t cs = some x → (∀ n ∈ x.1.weights P t, n ≤ reachBytes) → ∃ y : α, CellsR w cs (c y)
theorem weights_all {H : Type} {P : Program} {e : TypeId} : ∀ {l : List (DataW H)} {d : DataW H} {n : Nat}, d ∈ l → n ∈ d.weights P e → n ∈ DataW.weightsAll P e l
  | [], _, _, h, _ => by cases h
  | a :: l, d, n, h, hn => by
    unfold DataW.weightsAll
    rcases List.mem_cons.1 h with rfl | h
    · exact List.mem_append_left _ hn
    · exact List.mem_append_right _ (weights_all h hn)
section
variable {P : Program} {t e : TypeId} {m : Nat}
theorem CellsR.one {w : World} {v : Value} {d : DV} (h : RepV (fun _ => False) w d [] v) : CellsR w [v] [d] := ⟨rfl, fun j hj => by
  have : j = 0 := by simpa using hj
  subst this; exact h⟩
theorem CellsR.app {w : World} {cs cs' : List Value} {l l' : List DV} (h : CellsR w cs l) (h' : CellsR w cs' l') : CellsR w (cs ++ cs') (l ++ l') := by
  refine ⟨by simp [h.1, h'.1], fun j hj => ?_⟩
  rcases Nat.lt_or_ge j l.length with hl | hl
  · have := h.2 j hl
    have hc : j < cs.length := by rw [h.1]; exact hl
    simp only [List.getD_eq_getElem?_getD] at this ⊢
    rw [List.getElem?_append_left hl, List.getElem?_append_left hc]; exact this
  · have := h'.2 (j - l.length) (by simp at hj; omega)
    simp only [List.getD_eq_getElem?_getD] at this ⊢
    rw [List.getElem?_append_right hl, List.getElem?_append_right (by rw [h.1]; exact hl), h.1]; exact this
theorem Rd.int {k : IntKind} (ht : P.underlying t = some (.int k)) (hc : P.cellsOf t = 1) : Rd P t 1 (fun n : Int => [.int k n]) := ⟨fun _ => rfl, hc, fun enc w fuel cs x h hw => by
  obtain ⟨n, rfl, _⟩ := DataW.trod_int ht h
  exact ⟨n, .one rfl⟩⟩
theorem cells_at {w : World} {a : Addr} {n : Nat} {cs : List Value} (h : w.cells? 0 a n = some cs) : cs.length = n ∧ ∀ j, j < n → w.cell? (a.add j) = some (cs.getD j undef) := by
  unfold World.cells? at h
  rw [if_pos (Nat.zero_le _)] at h
  have hl : cs.length = n := by simpa using Lib.mapM_length h
  refine ⟨hl, fun j hj => ?_⟩
  obtain ⟨b, h1, h2⟩ := Lib.mapM_at h j j (by simp [hj])
  rw [h2, List.getD_eq_getElem?_getD, h1]; rfl
theorem addr_plain {w : World} {a : Addr} {v : Value} (h : w.cell? a = some v) : ∃ b o, a = ⟨b, o, none⟩ := by
  obtain ⟨b, o, r⟩ := a
  cases r with
  | none => exact ⟨b, o, rfl⟩
  | some r =>
    unfold World.cell? at h
    split at h
    · simp at h
    · cases h
theorem add_plain (b o x : Nat) : (⟨b, o, none⟩ : Addr).add x = ⟨b, o + x, none⟩ := by
  unfold Addr.add
  split
  · rename_i e; subst e; rfl
  · rfl
/-- A slice of elements that can be read. -/
theorem Rd.row {α : Type} [Inhabited α] {c : α → List DV} (ht : P.underlying t = some (.slice e)) (hb : 0 < P.bytesOf e) (hm : 0 < m) (he : Rd P e m c) {H : Type} (enc : TypeId × Value → H) (w : World) (fuel : Nat) (cs : List Value) (x : DataW H × List MemPlace) (h : DataW.trod enc P w 0 (fun _ => true) true fuel t cs = some x) (hw : ∀ n ∈ x.1.weights P t, n ≤ reachBytes) :
    ∃ (L : List α) (a : Option Addr) (cap : Nat), cs = [.slice a L.length cap] ∧ L.length ≤ cap ∧ L.length ≤ LB ∧ ∀ i j, i < L.length → j < m → ∃ b o u, a = some ⟨b, o, none⟩ ∧ w.cell? ⟨b, o + (i * m + j), none⟩ = some u ∧ RepV (fun _ => False) w ((c (L.getD i default)).getD j .any) [] u := by
  rcases Deep.open_slice ht h with ⟨rfl, _⟩ | ⟨a, len, cap, m', n, D, Pl, rfl, _, hlc, hcap, hm', hx, hel⟩
  · exact ⟨[], none, 0, rfl, Nat.le_refl _, Nat.zero_le _, fun i j hi => absurd hi (Nat.not_lt_zero i)⟩
  · simp only [if_true] at hm'
    subst hm'
    subst hx
    have plain : 0 < len → ∃ b o, a = ⟨b, o, none⟩ := fun h0 => by
      obtain ⟨cs', h1, _⟩ := hel 0 (by omega)
      obtain ⟨g1, g2⟩ := cells_at h1
      have g3 := g2 0 (by rw [he.2.1]; exact hm)
      have e0 : (a.add (0 * P.cellsOf e)).add 0 = a := by simp [Addr.add]
      rw [e0] at g3
      exact addr_plain g3
    have pick : ∀ i, i < len → ∃ y : α, ∀ j, j < m → ∃ b o u, a = ⟨b, o, none⟩ ∧ w.cell? ⟨b, o + (i * m + j), none⟩ = some u ∧ RepV (fun _ => False) w ((c y).getD j .any) [] u := fun i hi => by
      obtain ⟨cs', h1, h2⟩ := hel i (by omega)
      obtain ⟨y, h3, h4⟩ := he.2.2 enc w n cs' _ h2 fun k hk => hw k (by
        simp only [DataW.weights, ht]
        refine List.mem_cons_of_mem _ (List.mem_append_left _ (weights_all (d := D i) ?_ hk))
        exact List.mem_map.2 ⟨i, List.mem_range.2 hi, rfl⟩)
      obtain ⟨g1, g2⟩ := cells_at h1
      obtain ⟨b, o, rfl⟩ := plain (by omega)
      refine ⟨y, fun j hj => ?_⟩
      have g3 := g2 j (by rw [he.2.1]; exact hj)
      refine ⟨b, o, _, rfl, ?_, h4 j (by rw [he.1]; exact hj)⟩
      rw [← g3, he.2.1, add_plain, add_plain, Nat.add_assoc]
    have hL : ∃ L : List α, L.length = len ∧ ∀ i, i < len → ∀ j, j < m → ∃ b o u, a = ⟨b, o, none⟩ ∧ w.cell? ⟨b, o + (i * m + j), none⟩ = some u ∧ RepV (fun _ => False) w ((c (L.getD i default)).getD j .any) [] u := by
      refine ⟨(List.range len).map fun i => if hi : i < len then (pick i hi).choose else default, by simp, fun i hi => ?_⟩
      have : ((List.range len).map fun i => if hi : i < len then (pick i hi).choose else default).getD i default = (pick i hi).choose := by
        simp [List.getD_eq_getElem?_getD, hi]
      rw [this]
      exact (pick i hi).choose_spec
    obtain ⟨L, rfl, hL⟩ := hL
    refine ⟨L, some a, _, rfl, hlc, ?_, fun i j hi hj => ?_⟩
    · have hk := hw ((L.length + (m' - L.length)) * P.bytesOf e) (by
        simp only [DataW.weights, ht, List.length_map, List.length_range]
        exact List.mem_cons_self)
      have h1 := Nat.le_mul_of_pos_right (L.length + (m' - L.length)) hb
      have h2 := Nat.le_trans h1 hk
      unfold reachBytes at h2
      unfold LB
      omega
    · obtain ⟨b, o, u, g1, g2, g3⟩ := hL i hi j hj
      exact ⟨b, o, u, by rw [g1], g2, g3⟩
theorem Rd.rows {α : Type} [Inhabited α] {c : α → List DV} (ht : P.underlying t = some (.slice e)) (hc : P.cellsOf t = 1) (hb : 0 < P.bytesOf e) (hm : 0 < m) (he : Rd P e m c) : Rd P t 1 (fun L : List α => [.sl m L.length (rowE c L)]) := ⟨fun _ => rfl, hc, fun enc w fuel cs x h hw => by
  obtain ⟨L, a, cap, rfl, h1, h2, h3⟩ := Rd.row ht hb hm he enc w fuel cs x h hw
  refine ⟨L, CellsR.one ⟨a, cap, rfl, h1, h2, fun i j hi hj => ?_⟩⟩
  obtain ⟨b, o, u, g1, g2, g3⟩ := h3 i j hi hj
  exact ⟨b, o, u, g1, fun h => h, g2, g3⟩⟩
theorem Rd.ints (ht : P.underlying t = some (.slice e)) (hc : P.cellsOf t = 1) (hb : 0 < P.bytesOf e) (he : P.underlying e = some (.int .i64)) (hce : P.cellsOf e = 1) : Rd P t 1 intsC := ⟨fun _ => rfl, hc, fun enc w fuel cs x h hw => by
  obtain ⟨L, a, cap, rfl, h1, h2, h3⟩ := Rd.row ht hb (Nat.zero_lt_one) (Rd.int he hce) enc w fuel cs x h hw
  refine ⟨L, .one ⟨a, cap, rfl, h1, h2, fun j hj => ?_⟩⟩
  obtain ⟨b, o, u, g1, g2, g3⟩ := h3 j 0 hj Nat.zero_lt_one
  refine ⟨b, o, g1, fun h => h, ?_⟩
  have : u = .int .i64 (L.getD j 0) := g3
  rw [← this, ← g2]; simp⟩
/-- The fields of a struct, from a place on. -/
def RdFs (P : Program) : List Field → Nat → Nat → {α : Type} → (α → List DV) → Prop := fun fs o n {α} c => ∀ (H : Type) (enc : TypeId × Value → H) (w : World) (fuel : Nat) (cs : List Value) (xs : List (DataW H × List MemPlace)), cs.length = n → (fs.mapM fun f => DataW.trod enc P w 0 (fun _ => true) true fuel f.type ((cs.drop f.offset).take (P.cellsOf f.type))) = some xs → (∀ k ∈ DataW.weightsEach P (fs.map (·.type)) (xs.map (·.1)), k ≤ reachBytes) → ∃ y : α, CellsR w (cs.drop o) (c y)
theorem RdFs.nil {o n : Nat} (ho : n = o) : RdFs P [] o n (fun _ : Unit => []) := fun _ enc w fuel cs xs hl _ _ => ⟨(), by rw [List.drop_of_length_le (by omega)]; exact ⟨rfl, fun j hj => absurd hj (Nat.not_lt_zero j)⟩⟩
theorem RdFs.cons {α β : Type} {c : α → List DV} {c' : β → List DV} {f : Field} {fs : List Field} {o n : Nat} (ho : f.offset = o) (hf : Rd P f.type m c) (hs : RdFs P fs (o + m) n c') : RdFs P (f :: fs) o n (fun x : α × β => c x.1 ++ c' x.2) := fun _ enc w fuel cs xs hl h hw => by
  rw [List.mapM_cons] at h
  obtain ⟨a, ha, h⟩ := Option.bind_eq_some_iff.1 h
  obtain ⟨ys, hys, e⟩ := Option.bind_eq_some_iff.1 h
  cases e
  obtain ⟨y, h1⟩ := hf.2.2 enc w fuel _ a ha fun k hk => hw k (by simp only [List.map_cons, DataW.weightsEach]; exact List.mem_append_left _ hk)
  obtain ⟨z, h2⟩ := hs _ enc w fuel cs ys hl hys fun k hk => hw k (by simp only [List.map_cons, DataW.weightsEach]; exact List.mem_append_right _ hk)
  refine ⟨(y, z), ?_⟩
  have : cs.drop o = (cs.drop f.offset).take (P.cellsOf f.type) ++ cs.drop (o + m) := by
    rw [ho, hf.2.1, ← List.drop_drop]
    exact (List.take_append_drop m (cs.drop o)).symm
  rw [this]
  exact h1.app h2
theorem Rd.struct {α β : Type} {c : α → List DV} {c' : β → List DV} {fs : Array Field} (ht : P.underlying t = some (.struct fs)) (hc : P.cellsOf t = m) (hs : RdFs P fs.toList 0 m c) (g : α → β) (hg : ∀ x, c x = c' (g x)) (hm : ∀ x, (c' x).length = m) : Rd P t m c' := ⟨hm, hc, fun enc w fuel cs x h hw => by
  cases fuel with
  | zero => simp [DataW.trod] at h
  | succ fuel =>
    unfold DataW.trod at h
    rw [ht] at h
    simp only at h
    split at h
    · rename_i hl
      obtain ⟨xs, hxs, e⟩ := Option.map_eq_some_iff.1 h
      subst e
      obtain ⟨y, hy⟩ := hs _ enc w fuel cs xs (by rw [hl, hc]) hxs fun k hk => hw k (by simp only [DataW.weights, ht]; exact hk)
      exact ⟨g y, by rw [← hg]; exact hy⟩
    · cases h⟩
end
end Go.Proofs.YtekkngkphejfcaaDoor
namespace Go.Proofs.YtekkngkphejfcaaDoor
open Go.ChangeShapes Go.WideShapes Go.ChangeAt Go.RowKit
/-- A parameter's values, as the view has them. -/
def RdV (P : Program) (t : TypeId) {α : Type} (d : α → DV) : Prop := ∀ {H : Type} (enc : TypeId × Value → H) (w : World) (base : Nat) (v : Value) (x : DataW H) (ps : List MemPlace), Value.okWide P w .any base t v → DataW.Trod enc P w 0 (fun _ => true) true t v x ps → (∀ n ∈ x.weights P t, n ≤ reachBytes) → ∃ y : α, RepV (fun _ => False) w (d y) [] v
section
variable {P : Program} {t e : TypeId}
theorem RdV.int {k : IntKind} (ht : P.underlying t = some (.int k)) : RdV P t (fun n : Int => .int k n) := fun enc w base v x ps hok _ _ => by
  obtain ⟨n, rfl⟩ := okWide_int ht hok
  exact ⟨n, rfl⟩
theorem RdV.agg {α : Type} {m : Nat} {c : α → List DV} {fs : Array Field} (ht : P.underlying t = some (.struct fs)) (h : Rd P t m c) : RdV P t (fun x => .agg m (L1 (c x))) := fun enc w base v x ps hok ⟨fuel, hx⟩ hw => by
  obtain ⟨cs, rfl, hcs⟩ := okWide_struct ht hok
  obtain ⟨y, h1, h2⟩ := h.2.2 enc w fuel _ _ hx hw
  have hm : (c y).length = m := h.1 y
  have hsz : cs.size = m := by
    have : cs.toList.length = (c y).length := h1
    simpa [hm] using this
  refine ⟨y, cs, rfl, hsz, fun j hj => ?_⟩
  have := h2 j (by rw [hm]; exact hj)
  refine ⟨cs[j]'(by omega), by simp [hsz, hj], ?_⟩
  have e : (Value.agg cs).cells.toList.getD j undef = cs[j]'(by omega) := by
    show cs.toList.getD j undef = _
    simp [List.getD_eq_getElem?_getD, hsz, hj]
  rw [e] at this
  exact this
/-- All parameters. -/
def ArgsV (P : Program) (ts : List TypeId) {α : Type} (ds : α → List DV) : Prop := ∀ {H : Type} (enc : TypeId × Value → H) (w : World) (base : Nat) (vs : List Value) (xs : List (DataW H)) (ps : List MemPlace), (∀ (j : Nat) t v, ts[j]? = some t → vs[j]? = some v → Value.okWide P w .any base t v) → DataW.TrodAll enc P w 0 (fun _ => true) true ts vs xs ps → (∀ n ∈ DataW.weightsEach P ts xs, n ≤ reachBytes) → ∃ y : α, (ds y).length = vs.length ∧ ∀ j, j < vs.length → RepV (fun _ => False) w ((ds y).getD j .any) [] (vs.getD j undef)
theorem ArgsV.nil : ArgsV P [] (fun _ : Unit => []) := fun enc w base vs xs ps _ h _ => by
  obtain ⟨rfl, _, _⟩ := trodAll_nil h
  exact ⟨(), rfl, fun j hj => absurd hj (Nat.not_lt_zero j)⟩
theorem ArgsV.cons {α β : Type} {d : α → DV} {ds : β → List DV} {ts : List TypeId} (h : RdV P t d) (hs : ArgsV P ts ds) : ArgsV P (t :: ts) (fun x : α × β => d x.1 :: ds x.2) := fun enc w base vs xs ps hok h0 hw => by
  obtain ⟨v, vs', x, xs', p, q, rfl, rfl, rfl, h1, h2⟩ := trodAll_cons h0
  obtain ⟨y, hy⟩ := h enc w base v x p (hok 0 t v rfl rfl) h1 fun n hn => hw n (by simp only [DataW.weightsEach]; exact List.mem_append_left _ hn)
  obtain ⟨z, hz1, hz2⟩ := hs enc w base vs' xs' q (fun j t' v' a b => hok (j + 1) t' v' (by simpa using a) (by simpa using b)) h2 fun n hn => hw n (by simp only [DataW.weightsEach]; exact List.mem_append_right _ hn)
  refine ⟨(y, z), by simp [hz1], fun j hj => ?_⟩
  cases j with
  | zero => exact hy
  | succ j => exact hz2 j (by simpa using hj)
theorem trodAll_ext {H : Type} {enc : TypeId × Value → H} (hl : laidOutB P = true) {W W' : World} (hE : Ext W W') : ∀ {ts : List TypeId} {vs : List Value} {ds : List (DataW H)} {ps : List MemPlace}, (∀ t ∈ ts, P.readableRec t = true ∧ t < P.types.size) → DataW.TrodAll enc P W 0 (fun _ => true) true ts vs ds ps → (∀ x ∈ ps, x.block < W.heap.size) → DataW.TrodAll enc P W' 0 (fun b => decide (b < W.heap.size)) true ts vs ds ps
  | [], _, _, _, _, h, _ => by
    obtain ⟨rfl, rfl, rfl⟩ := trodAll_nil h
    rfl
  | t :: ts, _, _, _, hr, h, hlt => by
    obtain ⟨v, vs', x, xs', p, q, rfl, rfl, rfl, h1, h2⟩ := trodAll_cons h
    exact ⟨p, q, Below.trod hl (hr t (by simp)).1 (hr t (by simp)).2 h1 hE fun x hx => hlt x (List.mem_append_left _ hx), trodAll_ext hl hE (fun t ht => hr t (by simp [ht])) h2 fun x hx => hlt x (List.mem_append_right _ hx), rfl⟩
/-- What a law asks behind the call: true, and all that came in as it was. -/
theorem post_law {H : Type} {enc : TypeId × Value → H} {f : Func} {s : ChangeSpec} {W W' : World} {args : Array Value} {ds gs : List (DataW H)} {before : List MemPlace} {tb : TypeId} (hl : laidOutB P = true) (hr : ∀ t ∈ f.params.toList, P.readableRec t = true ∧ t < P.types.size) (hE : Ext W W')
    (hW : DataW.Whole enc P f.params.toList s.vars false W args.toList ds gs before) (hv : s.vars = []) (hs : s.fn H (ds ++ gs) = { results := [.lit (.bool true)], args := ds }) (hrt : f.resultTypes = #[tb]) (htb : P.underlying tb = some .bool) :
    s.post enc P f false true false false W args (.bool true) W' := by
  have hW' := hW
  have hlt := hW.lt
  obtain ⟨p, q, hA, hV, rfl, hfz, hnd⟩ := hW
  rw [hv] at hV
  obtain ⟨rfl, rfl⟩ := trodVars_none hV
  have hargs := trodAll_ext hl hE hr hA fun x hx => hlt x (List.mem_append_left _ hx)
  refine ⟨ds, [], p ++ [], [], p, [], hW', ?_, ?_, ?_, World.keptBut_mono (fun x hx => ⟨hx, .inr (.inl (by simpa using hx))⟩) (Below.frame hE (· ∈ p ++ [])), fun h => by cases h⟩
  · rw [hs, hrt]
    exact trodAll_mk1 (shut_bool htb true)
  · rw [hs]; exact hargs
  · rw [hv, hs]; rfl
/-- A law's call. -/
theorem law_calls {H : Type} {enc : TypeId × Value → H} {Γ : Glo} {fid : Nat} {f : Func} {s : ChangeSpec} {W : World} {base : Nat} {args : Array Value} {ds gs : List (DataW H)} {before : List MemPlace} {tb : TypeId} {α : Type} {dv : α → List DV} (hl : laidOutB P = true) (hr : ∀ t ∈ f.params.toList, P.readableRec t = true ∧ t < P.types.size)
    (hread : ArgsV P f.params.toList dv) (hES : ∀ (w : World) (y : α), (∀ j, RepV (fun _ => False) w ((dv y).getD j .any) [] (args.getD j undef)) → ES P Γ fid (dv y) [] (.bool true) [] true)
    (hval : ∀ (j : Nat) t v, f.params[j]? = some t → args[j]? = some v → Value.okWide P W .any base t v) (hW : DataW.Whole enc P f.params.toList s.vars false W args.toList ds gs before) (hv : s.vars = []) (hs : s.fn H (ds ++ gs) = { results := [.lit (.bool true)], args := ds }) (hrt : f.resultTypes = #[tb]) (htb : P.underlying tb = some .bool)
    (hsz : (DataW.weightsEach P f.params.toList ds).all (· ≤ reachBytes) = true) (hg : Γ.gi W) : Calls P fid args W fun e W' => ∃ v, e = .returned v ∧ s.post enc P f false true false false W args v W' := by
  have hW' := hW
  obtain ⟨p, q, hA, hV, rfl, hfz, hnd⟩ := hW
  obtain ⟨y, h1, h2⟩ := hread enc W base args.toList ds p (fun j t v a b => hval j t v (by simpa using a) (by simpa using b)) hA fun n hn => by
    have := List.all_eq_true.1 hsz n hn
    simpa using this
  have hlen : (dv y).length = args.size := by simpa using h1
  have hrep : ∀ j, RepV (fun _ => False) W ((dv y).getD j .any) [] (args.getD j undef) := fun j => by
    rcases Nat.lt_or_ge j args.size with hj | hj
    · have := h2 j (by simpa using hj)
      simpa [List.getD_eq_getElem?_getD, Array.getD_eq_getD_getElem?, hj] using this
    · have : (dv y).getD j .any = .any := by rw [List.getD_eq_getElem?_getD, List.getElem?_eq_none (by omega)]; rfl
      rw [this]; trivial
  refine ((hES W y hrep).2 (fun _ => False) [] W args (hrel_nil (fun b hb => hb.elim) hg) ⟨hlen, fun i hi => ?_⟩).mono ?_
  · exact RepV.out _ (out_iff (fun b hb => MS_nil.1 hb) []) (hrep i)
  · rintro e W' ⟨v, rfl, G⟩
    obtain ⟨ρ', _, hvv, _⟩ := G.ex
    have hvv : v = .bool true := hvv
    subst hvv
    exact ⟨_, rfl, post_law hl hr (G.ext rfl) hW' hv hs hrt htb⟩
end
end Go.Proofs.YtekkngkphejfcaaDoor
