/- Functions read off the code: pruning. -/
import Derived.Test.YtekkngkphejfcaaDoorDemb
import Derived.Test.YtekkngkphejfcaaDoorHc
namespace Go.Proofs.YtekkngkphejfcaaDoor
open Go.RowKit

def a_loseW_0 : Prop := SOk (regF Tryd.f58 0) [] [0, 1, 2, 3, 4, 5, 6, 7, 8, 9, 10, 11, 12, 13, 14, 15, 16, 17] [18]
theorem s_loseW_0 : a_loseW_0 := by unfold a_loseW_0 SOk; kernel_rfl
def sch_loseW : Sch := fun i => match i with
  | 0 => .ord [] [0, 1, 2, 3, 4, 5, 6, 7, 8, 9, 10, 11, 12, 13, 14, 15, 16, 17] [18]
  | _ => .no
def loseW_l0 (n : Nat) (cell ss : Int) (c : ConsD) (q : ProbD) (pos : List Int) (ln : Nat) (lost : List Int) : Option ((List Int)) :=
  if ((0 : Int) ≤ cell ∧ cell < ((ln : Nat) : Int)) ∧ 0 + ((cell).toNat) < lost.length ∧ ((0 : Int) ≤ cell ∧ cell < ((pos.length : Nat) : Int)) then
   some (lost.set (0 + ((cell).toNat)) (bits .or .i64 (lost.getD (0 + ((cell).toNat)) 0) (bits .and .i64 (pos.getD ((cell).toNat) 0) ss)))
  else none
def loseW (n : Nat) (cell ss : Int) (c : ConsD) (q : ProbD) (pos : List Int) (ln : Nat) (lost : List Int) : Option ((List Int)) := loseW_l0 n cell ss c q pos ln lost
set_option maxRecDepth 100000 in
set_option maxHeartbeats 4000000 in
theorem loseW_ok {n : Nat} (cell ss : Int) (c : ConsD) (q : ProbD) (pos : List Int) (ln : Nat) (lost : List Int) {r : (List Int)} (h : loseW n cell ss c q pos ln lost = some r) : ES Tryd.prog GG 58 [.ref 0 0, .int .i64 cell, .int .i64 ss] [some (.cells (consC c ++ probC q ++ [.ints pos, .msl 1 1 0 ln])), some (.ints lost)] (.tup 0 (fun j => ([] : List DV).getD j .any)) [some (.cells (consC c ++ probC q ++ [.ints pos, .msl 1 1 0 ln])), some (.ints r)] false := by
  have hX : HX Fence.wide Tryd.prog := ⟨FOk.wide, by kernel_rfl⟩
  refine ES.of_trk Tryd.func58 (by kernel_rfl) (by kernel_rfl) (noIterB (by kernel_rfl)) (fun e => by cases e) fun B N => ?_
  unfold loseW at h
  unfold loseW_l0 at h
  obtain ⟨⟨g0, g1, g2⟩, h⟩ := guardSome h
  cases h
  exact TrK.e hX sch_loseW 6 [] [0, 1] [] (.g s_loseW_0 <| .g g0 <| .g g1 <| .g g2 <| .g g0 <| .g g1 <| .e) [] .e (by kernel_rfl)


def a_onlyW_0 : Prop := SOk (regF Tryd.f59 0) [] [0, 1, 2, 3, 4, 5, 6, 7, 8, 9, 10, 11, 12, 13, 14, 15, 16, 17, 18, 19, 20, 21] [22]
theorem s_onlyW_0 : a_onlyW_0 := by unfold a_onlyW_0 SOk; kernel_rfl
def sch_onlyW : Sch := fun i => match i with
  | 0 => .ord [] [0, 1, 2, 3, 4, 5, 6, 7, 8, 9, 10, 11, 12, 13, 14, 15, 16, 17, 18, 19, 20, 21] [22]
  | _ => .no
def onlyW_l0 (n : Nat) (cell : Int) (c : ConsD) (q : ProbD) (pos : List Int) (ln : Nat) (lost : List Int) : Option ((List Int)) :=
  if ((0 : Int) ≤ cell ∧ cell < ((ln : Nat) : Int)) ∧ 0 + ((cell).toNat) < lost.length ∧ ((0 : Int) ≤ cell ∧ cell < ((pos.length : Nat) : Int)) then
   some (lost.set (0 + ((cell).toNat)) (bits .or .i64 (lost.getD (0 + ((cell).toNat)) 0) (bits .andNot .i64 (pos.getD ((cell).toNat) 0) c.set)))
  else none
def onlyW (n : Nat) (cell : Int) (c : ConsD) (q : ProbD) (pos : List Int) (ln : Nat) (lost : List Int) : Option ((List Int)) := onlyW_l0 n cell c q pos ln lost
set_option maxRecDepth 100000 in
set_option maxHeartbeats 4000000 in
theorem onlyW_ok {n : Nat} (cell : Int) (c : ConsD) (q : ProbD) (pos : List Int) (ln : Nat) (lost : List Int) {r : (List Int)} (h : onlyW n cell c q pos ln lost = some r) : ES Tryd.prog GG 59 [.ref 0 0, .int .i64 cell] [some (.cells (consC c ++ probC q ++ [.ints pos, .msl 1 1 0 ln])), some (.ints lost)] (.tup 0 (fun j => ([] : List DV).getD j .any)) [some (.cells (consC c ++ probC q ++ [.ints pos, .msl 1 1 0 ln])), some (.ints r)] false := by
  have hX : HX Fence.wide Tryd.prog := ⟨FOk.wide, by kernel_rfl⟩
  refine ES.of_trk Tryd.func59 (by kernel_rfl) (by kernel_rfl) (noIterB (by kernel_rfl)) (fun e => by cases e) fun B N => ?_
  unfold onlyW at h
  unfold onlyW_l0 at h
  obtain ⟨⟨g0, g1, g2⟩, h⟩ := guardSome h
  cases h
  exact TrK.e hX sch_onlyW 6 [] [0, 1] [] (.g s_onlyW_0 <| .g g0 <| .g g1 <| .g g2 <| .g g0 <| .g g1 <| .e) [] .e (by kernel_rfl)


def sch_diffW : Sch := fun i => match i with
  | _ => .no
inductive diffWPt where
  | l1 (x3 x4 x17 : Int)
  | l2 (x3 x4 x48 : Int) (o1 : List Int)
def diffW_l1 (n : Nat) (self : diffWPt → Option (Bool × (List Int))) (c : ConsD) (q : ProbD) (pos : List Int) (ln : Nat) (lost : List Int) (x3 x4 x17 : Int) : Option (Bool × (List Int)) :=
  bif (decide (x17 < ((c.cells.length : Nat) : Int))) then
   if ((0 : Int) ≤ x17 ∧ x17 < ((c.cells.length : Nat) : Int)) ∧ ((0 : Int) ≤ (c.cells.getD ((x17).toNat) 0) ∧ (c.cells.getD ((x17).toNat) 0) < ((pos.length : Nat) : Int)) ∧ R64 ((pos.getD ((c.cells.getD ((x17).toNat) 0).toNat) 0) - 1) then
    bif ((bits .and .i64 (pos.getD ((c.cells.getD ((x17).toNat) 0).toNat) 0) ((pos.getD ((c.cells.getD ((x17).toNat) 0).toNat) 0) - 1)) == 0) then
     if R64 (x17 + 1) then
      self (.l1 (bits .or .i64 x3 (pos.getD ((c.cells.getD ((x17).toNat) 0).toNat) 0)) (bits .or .i64 x4 (bits .and .i64 x3 (pos.getD ((c.cells.getD ((x17).toNat) 0).toNat) 0))) (x17 + 1))
     else none
    else
     if R64 (x17 + 1) then
      self (.l1 x3 x4 (x17 + 1))
     else none
   else none
  else
   self (.l2 x3 x4 0 lost)
def diffW_l2 (n : Nat) (self : diffWPt → Option (Bool × (List Int))) (c : ConsD) (q : ProbD) (pos : List Int) (ln : Nat) (lost : List Int) (x3 x4 x48 : Int) (o1 : List Int) : Option (Bool × (List Int)) :=
  bif (decide (x48 < ((c.cells.length : Nat) : Int))) then
   if ((0 : Int) ≤ x48 ∧ x48 < ((c.cells.length : Nat) : Int)) ∧ ((0 : Int) ≤ (c.cells.getD ((x48).toNat) 0) ∧ (c.cells.getD ((x48).toNat) 0) < ((pos.length : Nat) : Int)) ∧ R64 ((pos.getD ((c.cells.getD ((x48).toNat) 0).toNat) 0) - 1) then
    bif ((bits .and .i64 (pos.getD ((c.cells.getD ((x48).toNat) 0).toNat) 0) ((pos.getD ((c.cells.getD ((x48).toNat) 0).toNat) 0) - 1)) == 0) then
     (loseW n (c.cells.getD ((x48).toNat) 0) (bits .or .i64 (bits .andNot .i64 x3 (pos.getD ((c.cells.getD ((x48).toNat) 0).toNat) 0)) x4) c q pos ln o1).bind fun y1 =>
      if R64 (x48 + 1) then
       self (.l2 x3 x4 (x48 + 1) y1)
      else none
    else
     (loseW n (c.cells.getD ((x48).toNat) 0) x3 c q pos ln o1).bind fun y1 =>
      if R64 (x48 + 1) then
       self (.l2 x3 x4 (x48 + 1) y1)
      else none
   else none
  else
   some (true, o1)
def diffW_l0 (n : Nat) (self : diffWPt → Option (Bool × (List Int))) (c : ConsD) (q : ProbD) (pos : List Int) (ln : Nat) (lost : List Int) : Option (Bool × (List Int)) :=
  self (.l1 0 0 0)
def diffW_m (c : ConsD) (q : ProbD) (pos : List Int) (ln : Nat) (lost : List Int) : Nat → diffWPt → Option (Bool × (List Int))
  | 0, _ => none
  | n + 1, .l1 x3 x4 x17 => diffW_l1 n (diffW_m c q pos ln lost n) c q pos ln lost x3 x4 x17
  | n + 1, .l2 x3 x4 x48 o1 => diffW_l2 n (diffW_m c q pos ln lost n) c q pos ln lost x3 x4 x48 o1
def diffW (n : Nat) (c : ConsD) (q : ProbD) (pos : List Int) (ln : Nat) (lost : List Int) : Option (Bool × (List Int)) := diffW_l0 n (diffW_m c q pos ln lost n) c q pos ln lost
/-- What the points stand for. -/
def diffW_at (n : Nat) (B : Nat) (N : Yard Tryd.prog GG 2) (c : ConsD) (q : ProbD) (pos : List Int) (ln : Nat) (lost : List Int) (r : Bool × (List Int)) : diffWPt → Prop
  | .l1 x3 x4 x17 => ∀ m0 : Nat, n ≤ m0 → TrK Tryd.prog GG Fence.wide (some B) 2 N (Fin Tryd.prog Tryd.f40 2 (.bool r.1) [some (.cells (consC c ++ probC q ++ [.ints pos, .msl 1 1 0 ln])), some (.ints r.2)]) (toN m0 (atNC (bodyC Tryd.f40) 0 [])) ⟨frm 77 [(0, .ref 0 0), (3, .int .i64 x3), (4, .int .i64 x4), (15, .ints c.cells), (16, .int .i64 ((c.cells.length : Nat) : Int)), (17, .int .i64 x17)], [some (.cells (consC c ++ probC q ++ [.ints pos, .msl 1 1 0 ln])), some (.ints lost)]⟩
  | .l2 x3 x4 x48 o1 => ∀ m0 : Nat, n ≤ m0 → TrK Tryd.prog GG Fence.wide (some B) 2 N (Fin Tryd.prog Tryd.f40 2 (.bool r.1) [some (.cells (consC c ++ probC q ++ [.ints pos, .msl 1 1 0 ln])), some (.ints r.2)]) (toN m0 (atNC (bodyC Tryd.f40) 2 [])) ⟨frm 77 [(0, .ref 0 0), (3, .int .i64 x3), (4, .int .i64 x4), (46, .ints c.cells), (47, .int .i64 ((c.cells.length : Nat) : Int)), (48, .int .i64 x48)], [some (.cells (consC c ++ probC q ++ [.ints pos, .msl 1 1 0 ln])), some (.ints o1)]⟩
set_option maxRecDepth 100000 in
set_option maxHeartbeats 4000000 in
theorem diffW_p1 (n B : Nat) (N : Yard Tryd.prog GG 2) (self : diffWPt → Option (Bool × (List Int))) (c : ConsD) (q : ProbD) (pos : List Int) (ln : Nat) (lost : List Int) (hself : ∀ pt r, self pt = some r → diffW_at n B N c q pos ln lost r pt) (x3 x4 x17 : Int) (r : Bool × (List Int)) (h : diffW_l1 n self c q pos ln lost x3 x4 x17 = some r) : diffW_at (n + 1) B N c q pos ln lost r (.l1 x3 x4 x17) := by
  have hX : HX Fence.wide Tryd.prog := ⟨FOk.wide, by kernel_rfl⟩
  intro m0 hm0
  refine TrK.round hm0 (by kernel_rfl) fun m0 hm0 => ?_
  unfold diffW_l1 at h
  rcases bifSome h with ⟨c0, h⟩ | ⟨c0, h⟩
  · obtain ⟨⟨g0, g1, g2⟩, h⟩ := guardSome h
    rcases bifSome h with ⟨c1, h⟩ | ⟨c1, h⟩
    · obtain ⟨g3, h⟩ := guardSome h
      exact TrK.g hX sch_diffW 24 [0, 3, 4, 15, 16, 17] [0, 1] [] (.o 18 (DLe.bool c0) <| .g g0 <| .g g1 <| .o 30 (wr64 g2) <| .o 32 (DLe.bool c1) <| .o 41 (wr64 g3) <| .e) (hself (.l1 (bits .or .i64 x3 (pos.getD ((c.cells.getD ((x17).toNat) 0).toNat) 0)) (bits .or .i64 x4 (bits .and .i64 x3 (pos.getD ((c.cells.getD ((x17).toNat) 0).toNat) 0))) (x17 + 1)) r h m0 hm0) (by kernel_rfl) (by kernel_rfl)
    · obtain ⟨g3, h⟩ := guardSome h
      exact TrK.g hX sch_diffW 22 [0, 3, 4, 15, 16, 17] [0, 1] [] (.o 18 (DLe.bool c0) <| .g g0 <| .g g1 <| .o 30 (wr64 g2) <| .o 32 (DLe.bool c1) <| .o 41 (wr64 g3) <| .e) (hself (.l1 x3 x4 (x17 + 1)) r h m0 hm0) (by kernel_rfl) (by kernel_rfl)
  · exact TrK.g hX sch_diffW 14 [0, 3, 4, 46, 47, 48] [0, 1] [] (.o 18 (DLe.bool c0) <| .e) (TrK.enter n (by kernel_rfl) (hself (.l2 x3 x4 0 lost) r h n (Nat.le_refl _))) (by kernel_rfl) (by kernel_rfl)
set_option maxRecDepth 100000 in
set_option maxHeartbeats 4000000 in
theorem diffW_p2 (n B : Nat) (N : Yard Tryd.prog GG 2) (self : diffWPt → Option (Bool × (List Int))) (c : ConsD) (q : ProbD) (pos : List Int) (ln : Nat) (lost : List Int) (hself : ∀ pt r, self pt = some r → diffW_at n B N c q pos ln lost r pt) (x3 x4 x48 : Int) (o1 : List Int) (r : Bool × (List Int)) (h : diffW_l2 n self c q pos ln lost x3 x4 x48 o1 = some r) : diffW_at (n + 1) B N c q pos ln lost r (.l2 x3 x4 x48 o1) := by
  have hX : HX Fence.wide Tryd.prog := ⟨FOk.wide, by kernel_rfl⟩
  intro m0 hm0
  refine TrK.round hm0 (by kernel_rfl) fun m0 hm0 => ?_
  unfold diffW_l2 at h
  rcases bifSome h with ⟨c0, h⟩ | ⟨c0, h⟩
  · obtain ⟨⟨g0, g1, g2⟩, h⟩ := guardSome h
    rcases bifSome h with ⟨c1, h⟩ | ⟨c1, h⟩
    · obtain ⟨y1, hy1, h⟩ := bindSome h
      obtain ⟨g3, h⟩ := guardSome h
      exact TrK.g hX sch_diffW 22 [0, 3, 4, 46, 47, 48] [0, 1] [] (.o 49 (DLe.bool c0) <| .g g0 <| .g g1 <| .o 61 (wr64 g2) <| .o 63 (DLe.bool c1) <| .c (ES.emC (loseW_ok (c.cells.getD ((x48).toNat) 0) (bits .or .i64 (bits .andNot .i64 x3 (pos.getD ((c.cells.getD ((x48).toNat) 0).toNat) 0)) x4) c q pos ln o1 hy1) [0, 1] [some (.cells (consC c ++ probC q ++ [.ints pos, .msl 1 1 0 ln])), some (.ints o1)] (by kernel_rfl) (by kernel_rfl)) <| .o 76 (wr64 g3) <| .e) (hself (.l2 x3 x4 (x48 + 1) y1) r h m0 hm0) (by kernel_rfl) (by kernel_rfl)
    · obtain ⟨y1, hy1, h⟩ := bindSome h
      obtain ⟨g3, h⟩ := guardSome h
      exact TrK.g hX sch_diffW 22 [0, 3, 4, 46, 47, 48] [0, 1] [] (.o 49 (DLe.bool c0) <| .g g0 <| .g g1 <| .o 61 (wr64 g2) <| .o 63 (DLe.bool c1) <| .c (ES.emC (loseW_ok (c.cells.getD ((x48).toNat) 0) x3 c q pos ln o1 hy1) [0, 1] [some (.cells (consC c ++ probC q ++ [.ints pos, .msl 1 1 0 ln])), some (.ints o1)] (by kernel_rfl) (by kernel_rfl)) <| .o 76 (wr64 g3) <| .e) (hself (.l2 x3 x4 (x48 + 1) y1) r h m0 hm0) (by kernel_rfl) (by kernel_rfl)
  · cases h
    exact TrK.e hX sch_diffW 12 [2] [0, 1] [] (.o 49 (DLe.bool c0) <| .e) [] .e (by kernel_rfl)
theorem diffW_all (B : Nat) (N : Yard Tryd.prog GG 2) (c : ConsD) (q : ProbD) (pos : List Int) (ln : Nat) (lost : List Int) : ∀ (n : Nat) (pt : diffWPt) (r : Bool × (List Int)), diffW_m c q pos ln lost n pt = some r → diffW_at n B N c q pos ln lost r pt
  | 0, _, _, h => by cases h
  | n + 1, .l1 x3 x4 x17, r, h => diffW_p1 n B N (diffW_m c q pos ln lost n) c q pos ln lost (diffW_all B N c q pos ln lost n) x3 x4 x17 r h
  | n + 1, .l2 x3 x4 x48 o1, r, h => diffW_p2 n B N (diffW_m c q pos ln lost n) c q pos ln lost (diffW_all B N c q pos ln lost n) x3 x4 x48 o1 r h
set_option maxRecDepth 100000 in
set_option maxHeartbeats 4000000 in
theorem diffW_ok {n : Nat} (c : ConsD) (q : ProbD) (pos : List Int) (ln : Nat) (lost : List Int) {r : Bool × (List Int)} (h : diffW n c q pos ln lost = some r) : ES Tryd.prog GG 40 [.ref 0 0] [some (.cells (consC c ++ probC q ++ [.ints pos, .msl 1 1 0 ln])), some (.ints lost)] (.bool r.1) [some (.cells (consC c ++ probC q ++ [.ints pos, .msl 1 1 0 ln])), some (.ints r.2)] false := by
  have hX : HX Fence.wide Tryd.prog := ⟨FOk.wide, by kernel_rfl⟩
  refine ES.of_trk Tryd.func40 (by kernel_rfl) (by kernel_rfl) (noIterB (by kernel_rfl)) (fun e => by cases e) fun B N => ?_
  have hself := diffW_all B N c q pos ln lost n
  unfold diffW at h
  generalize diffW_m c q pos ln lost n = self at h hself
  unfold diffW_l0 at h
  exact TrK.g hX sch_diffW 13 [0, 3, 4, 15, 16, 17] [0, 1] [] .e (TrK.enter n (by kernel_rfl) (hself (.l1 0 0 0) r h n (Nat.le_refl _))) (by kernel_rfl) (by kernel_rfl)


def a_countW_5 : Prop := SOk (regF Tryd.f41 5) [] [0, 1, 2, 3, 4, 5, 6, 7, 8, 9, 10, 11, 12, 13, 14] []
theorem s_countW_5 : a_countW_5 := by unfold a_countW_5 SOk; kernel_rfl
def a_countW_8 : Prop := SOk (regF Tryd.f41 8) [] [0, 1, 2, 3, 4, 5, 6, 7, 8, 9, 10, 11, 12, 13, 14] []
theorem s_countW_8 : a_countW_8 := by unfold a_countW_8 SOk; kernel_rfl
def a_countW_16 : Prop := SOk (regF Tryd.f41 16) [] [0, 1, 2, 3, 4, 5, 6, 7, 8, 9, 10, 11, 12, 13, 14, 15, 16, 17, 18, 19, 20, 21, 22] []
theorem s_countW_16 : a_countW_16 := by unfold a_countW_16 SOk; kernel_rfl
def a_countW_18 : Prop := SOk (regF Tryd.f41 18) [] [0, 1, 2, 3, 4, 5, 6, 7, 8, 9, 10, 11, 12, 13, 14, 15, 16, 17, 18, 19, 20, 21, 22] []
theorem s_countW_18 : a_countW_18 := by unfold a_countW_18 SOk; kernel_rfl
def sch_countW : Sch := fun i => match i with
  | 5 => .ord [] [0, 1, 2, 3, 4, 5, 6, 7, 8, 9, 10, 11, 12, 13, 14] []
  | 8 => .ord [] [0, 1, 2, 3, 4, 5, 6, 7, 8, 9, 10, 11, 12, 13, 14] []
  | 16 => .ord [] [0, 1, 2, 3, 4, 5, 6, 7, 8, 9, 10, 11, 12, 13, 14, 15, 16, 17, 18, 19, 20, 21, 22] []
  | 18 => .ord [] [0, 1, 2, 3, 4, 5, 6, 7, 8, 9, 10, 11, 12, 13, 14, 15, 16, 17, 18, 19, 20, 21, 22] []
  | _ => .no
inductive countWPt where
  | l1 (x3 x4 x15 : Int)
  | l2 (x3 x4 x78 : Int) (o1 : List Int)
def countW_l1 (n : Nat) (self : countWPt → Option (Bool × (List Int))) (c : ConsD) (q : ProbD) (pos : List Int) (ln : Nat) (lost : List Int) (x3 x4 x15 : Int) : Option (Bool × (List Int)) :=
  bif (decide (x15 < ((c.cells.length : Nat) : Int))) then
   if ((0 : Int) ≤ x15 ∧ x15 < ((c.cells.length : Nat) : Int)) ∧ ((0 : Int) ≤ (c.cells.getD ((x15).toNat) 0) ∧ (c.cells.getD ((x15).toNat) 0) < ((pos.length : Nat) : Int)) then
    bif ((bits .andNot .i64 (pos.getD ((c.cells.getD ((x15).toNat) 0).toNat) 0) c.set) == 0) then
     if R64 (x3 + 1) ∧ R64 (x4 + 1) ∧ R64 (x15 + 1) then
      self (.l1 (x3 + 1) (x4 + 1) (x15 + 1))
     else none
    else
     bif ((bits .and .i64 (pos.getD ((c.cells.getD ((x15).toNat) 0).toNat) 0) c.set) != 0) then
      if R64 (x4 + 1) ∧ R64 (x15 + 1) then
       self (.l1 x3 (x4 + 1) (x15 + 1))
      else none
     else
      if R64 (x15 + 1) then
       self (.l1 x3 x4 (x15 + 1))
      else none
   else none
  else
   bif (decide (x3 > c.hi)) then
    some (false, lost)
   else
    bif (decide (x4 < c.lo)) then
     some (false, lost)
    else
     self (.l2 x3 x4 0 lost)
def countW_l2 (n : Nat) (self : countWPt → Option (Bool × (List Int))) (c : ConsD) (q : ProbD) (pos : List Int) (ln : Nat) (lost : List Int) (x3 x4 x78 : Int) (o1 : List Int) : Option (Bool × (List Int)) :=
  bif (decide (x78 < ((c.cells.length : Nat) : Int))) then
   if (0 : Int) ≤ x78 ∧ x78 < ((c.cells.length : Nat) : Int) then
    bif (x3 == c.hi) then
     if (0 : Int) ≤ (c.cells.getD ((x78).toNat) 0) ∧ (c.cells.getD ((x78).toNat) 0) < ((pos.length : Nat) : Int) then
      bif ((bits .andNot .i64 (pos.getD ((c.cells.getD ((x78).toNat) 0).toNat) 0) c.set) != 0) then
       (loseW n (c.cells.getD ((x78).toNat) 0) c.set c q pos ln o1).bind fun y1 =>
        bif (x4 == c.lo) then
         bif ((bits .and .i64 (pos.getD ((c.cells.getD ((x78).toNat) 0).toNat) 0) c.set) != 0) then
          (onlyW n (c.cells.getD ((x78).toNat) 0) c q pos ln y1).bind fun y2 =>
           if R64 (x78 + 1) then
            self (.l2 x3 x4 (x78 + 1) y2)
           else none
         else
          if R64 (x78 + 1) then
           self (.l2 x3 x4 (x78 + 1) y1)
          else none
        else
         if R64 (x78 + 1) then
          self (.l2 x3 x4 (x78 + 1) y1)
         else none
      else
       bif (x4 == c.lo) then
        bif ((bits .and .i64 (pos.getD ((c.cells.getD ((x78).toNat) 0).toNat) 0) c.set) != 0) then
         (onlyW n (c.cells.getD ((x78).toNat) 0) c q pos ln o1).bind fun y1 =>
          if R64 (x78 + 1) then
           self (.l2 x3 x4 (x78 + 1) y1)
          else none
        else
         if R64 (x78 + 1) then
          self (.l2 x3 x4 (x78 + 1) o1)
         else none
       else
        if R64 (x78 + 1) then
         self (.l2 x3 x4 (x78 + 1) o1)
        else none
     else none
    else
     bif (x4 == c.lo) then
      if (0 : Int) ≤ (c.cells.getD ((x78).toNat) 0) ∧ (c.cells.getD ((x78).toNat) 0) < ((pos.length : Nat) : Int) then
       bif ((bits .and .i64 (pos.getD ((c.cells.getD ((x78).toNat) 0).toNat) 0) c.set) != 0) then
        (onlyW n (c.cells.getD ((x78).toNat) 0) c q pos ln o1).bind fun y1 =>
         if R64 (x78 + 1) then
          self (.l2 x3 x4 (x78 + 1) y1)
         else none
       else
        if R64 (x78 + 1) then
         self (.l2 x3 x4 (x78 + 1) o1)
        else none
      else none
     else
      if R64 (x78 + 1) then
       self (.l2 x3 x4 (x78 + 1) o1)
      else none
   else none
  else
   some (true, o1)
def countW_l0 (n : Nat) (self : countWPt → Option (Bool × (List Int))) (c : ConsD) (q : ProbD) (pos : List Int) (ln : Nat) (lost : List Int) : Option (Bool × (List Int)) :=
  self (.l1 0 0 0)
def countW_m (c : ConsD) (q : ProbD) (pos : List Int) (ln : Nat) (lost : List Int) : Nat → countWPt → Option (Bool × (List Int))
  | 0, _ => none
  | n + 1, .l1 x3 x4 x15 => countW_l1 n (countW_m c q pos ln lost n) c q pos ln lost x3 x4 x15
  | n + 1, .l2 x3 x4 x78 o1 => countW_l2 n (countW_m c q pos ln lost n) c q pos ln lost x3 x4 x78 o1
def countW (n : Nat) (c : ConsD) (q : ProbD) (pos : List Int) (ln : Nat) (lost : List Int) : Option (Bool × (List Int)) := countW_l0 n (countW_m c q pos ln lost n) c q pos ln lost
/-- What the points stand for. -/
def countW_at (n : Nat) (B : Nat) (N : Yard Tryd.prog GG 2) (c : ConsD) (q : ProbD) (pos : List Int) (ln : Nat) (lost : List Int) (r : Bool × (List Int)) : countWPt → Prop
  | .l1 x3 x4 x15 => ∀ m0 : Nat, n ≤ m0 → TrK Tryd.prog GG Fence.wide (some B) 2 N (Fin Tryd.prog Tryd.f41 2 (.bool r.1) [some (.cells (consC c ++ probC q ++ [.ints pos, .msl 1 1 0 ln])), some (.ints r.2)]) (toN m0 (atNC (bodyC Tryd.f41) 0 [])) ⟨frm 140 [(0, .ref 0 0), (3, .int .i64 x3), (4, .int .i64 x4), (13, .ints c.cells), (14, .int .i64 ((c.cells.length : Nat) : Int)), (15, .int .i64 x15)], [some (.cells (consC c ++ probC q ++ [.ints pos, .msl 1 1 0 ln])), some (.ints lost)]⟩
  | .l2 x3 x4 x78 o1 => ∀ m0 : Nat, n ≤ m0 → TrK Tryd.prog GG Fence.wide (some B) 2 N (Fin Tryd.prog Tryd.f41 2 (.bool r.1) [some (.cells (consC c ++ probC q ++ [.ints pos, .msl 1 1 0 ln])), some (.ints r.2)]) (toN m0 (atNC (bodyC Tryd.f41) 3 [])) ⟨frm 140 [(0, .ref 0 0), (3, .int .i64 x3), (4, .int .i64 x4), (76, .ints c.cells), (77, .int .i64 ((c.cells.length : Nat) : Int)), (78, .int .i64 x78)], [some (.cells (consC c ++ probC q ++ [.ints pos, .msl 1 1 0 ln])), some (.ints o1)]⟩
set_option maxRecDepth 100000 in
set_option maxHeartbeats 4000000 in
theorem countW_p1 (n B : Nat) (N : Yard Tryd.prog GG 2) (self : countWPt → Option (Bool × (List Int))) (c : ConsD) (q : ProbD) (pos : List Int) (ln : Nat) (lost : List Int) (hself : ∀ pt r, self pt = some r → countW_at n B N c q pos ln lost r pt) (x3 x4 x15 : Int) (r : Bool × (List Int)) (h : countW_l1 n self c q pos ln lost x3 x4 x15 = some r) : countW_at (n + 1) B N c q pos ln lost r (.l1 x3 x4 x15) := by
  have hX : HX Fence.wide Tryd.prog := ⟨FOk.wide, by kernel_rfl⟩
  intro m0 hm0
  refine TrK.round hm0 (by kernel_rfl) fun m0 hm0 => ?_
  unfold countW_l1 at h
  rcases bifSome h with ⟨c0, h⟩ | ⟨c0, h⟩
  · obtain ⟨⟨g0, g1⟩, h⟩ := guardSome h
    rcases bifSome h with ⟨c1, h⟩ | ⟨c1, h⟩
    · obtain ⟨⟨g2, g3, g4⟩, h⟩ := guardSome h
      exact TrK.g hX sch_countW 24 [0, 3, 4, 13, 14, 15] [0, 1] [] (.o 16 (DLe.bool c0) <| .g g0 <| .g s_countW_5 <| .g g1 <| .o 33 (DLe.bool c1) <| .o 35 (wr64 g2) <| .o 37 (wr64 g3) <| .o 55 (wr64 g4) <| .e) (hself (.l1 (x3 + 1) (x4 + 1) (x15 + 1)) r h m0 hm0) (by kernel_rfl) (by kernel_rfl)
    · rcases bifSome h with ⟨c2, h⟩ | ⟨c2, h⟩
      · obtain ⟨⟨g2, g3⟩, h⟩ := guardSome h
        exact TrK.g hX sch_countW 25 [0, 3, 4, 13, 14, 15] [0, 1] [] (.o 16 (DLe.bool c0) <| .g g0 <| .g s_countW_5 <| .g g1 <| .o 33 (DLe.bool c1) <| .g s_countW_8 <| .g g1 <| .o 52 (DLe.bool c2) <| .o 54 (wr64 g2) <| .o 55 (wr64 g3) <| .e) (hself (.l1 x3 (x4 + 1) (x15 + 1)) r h m0 hm0) (by kernel_rfl) (by kernel_rfl)
      · obtain ⟨g2, h⟩ := guardSome h
        exact TrK.g hX sch_countW 25 [0, 3, 4, 13, 14, 15] [0, 1] [] (.o 16 (DLe.bool c0) <| .g g0 <| .g s_countW_5 <| .g g1 <| .o 33 (DLe.bool c1) <| .g s_countW_8 <| .g g1 <| .o 52 (DLe.bool c2) <| .o 55 (wr64 g2) <| .e) (hself (.l1 x3 x4 (x15 + 1)) r h m0 hm0) (by kernel_rfl) (by kernel_rfl)
  · rcases bifSome h with ⟨c1, h⟩ | ⟨c1, h⟩
    · cases h
      exact TrK.e hX sch_countW 16 [2] [0, 1] [] (.o 16 (DLe.bool c0) <| .o 62 (DLe.bool c1) <| .e) [] .e (by kernel_rfl)
    · rcases bifSome h with ⟨c2, h⟩ | ⟨c2, h⟩
      · cases h
        exact TrK.e hX sch_countW 16 [2] [0, 1] [] (.o 16 (DLe.bool c0) <| .o 62 (DLe.bool c1) <| .o 70 (DLe.bool c2) <| .e) [] .e (by kernel_rfl)
      · exact TrK.g hX sch_countW 19 [0, 3, 4, 76, 77, 78] [0, 1] [] (.o 16 (DLe.bool c0) <| .o 62 (DLe.bool c1) <| .o 70 (DLe.bool c2) <| .e) (TrK.enter n (by kernel_rfl) (hself (.l2 x3 x4 0 lost) r h n (Nat.le_refl _))) (by kernel_rfl) (by kernel_rfl)
set_option maxRecDepth 100000 in
set_option maxHeartbeats 4000000 in
theorem countW_p2 (n B : Nat) (N : Yard Tryd.prog GG 2) (self : countWPt → Option (Bool × (List Int))) (c : ConsD) (q : ProbD) (pos : List Int) (ln : Nat) (lost : List Int) (hself : ∀ pt r, self pt = some r → countW_at n B N c q pos ln lost r pt) (x3 x4 x78 : Int) (o1 : List Int) (r : Bool × (List Int)) (h : countW_l2 n self c q pos ln lost x3 x4 x78 o1 = some r) : countW_at (n + 1) B N c q pos ln lost r (.l2 x3 x4 x78 o1) := by
  have hX : HX Fence.wide Tryd.prog := ⟨FOk.wide, by kernel_rfl⟩
  intro m0 hm0
  refine TrK.round hm0 (by kernel_rfl) fun m0 hm0 => ?_
  unfold countW_l2 at h
  rcases bifSome h with ⟨c0, h⟩ | ⟨c0, h⟩
  · obtain ⟨g0, h⟩ := guardSome h
    rcases bifSome h with ⟨c1, h⟩ | ⟨c1, h⟩
    · obtain ⟨g1, h⟩ := guardSome h
      rcases bifSome h with ⟨c2, h⟩ | ⟨c2, h⟩
      · obtain ⟨y1, hy1, h⟩ := bindSome h
        rcases bifSome h with ⟨c3, h⟩ | ⟨c3, h⟩
        · rcases bifSome h with ⟨c4, h⟩ | ⟨c4, h⟩
          · obtain ⟨y2, hy2, h⟩ := bindSome h
            obtain ⟨g2, h⟩ := guardSome h
            exact TrK.g hX sch_countW 25 [0, 3, 4, 76, 77, 78] [0, 1] [] (.o 79 (DLe.bool c0) <| .g g0 <| .g s_countW_16 <| .o 88 (DLe.bool c1) <| .g g1 <| .o 103 (DLe.bool c2) <| .c (ES.emC (loseW_ok (c.cells.getD ((x78).toNat) 0) c.set c q pos ln o1 hy1) [0, 1] [some (.cells (consC c ++ probC q ++ [.ints pos, .msl 1 1 0 ln])), some (.ints o1)] (by kernel_rfl) (by kernel_rfl)) <| .g s_countW_18 <| .o 119 (DLe.bool c3) <| .g g1 <| .o 134 (DLe.bool c4) <| .c (ES.emC (onlyW_ok (c.cells.getD ((x78).toNat) 0) c q pos ln y1 hy2) [0, 1] [some (.cells (consC c ++ probC q ++ [.ints pos, .msl 1 1 0 ln])), some (.ints y1)] (by kernel_rfl) (by kernel_rfl)) <| .o 139 (wr64 g2) <| .e) (hself (.l2 x3 x4 (x78 + 1) y2) r h m0 hm0) (by kernel_rfl) (by kernel_rfl)
          · obtain ⟨g2, h⟩ := guardSome h
            exact TrK.g hX sch_countW 25 [0, 3, 4, 76, 77, 78] [0, 1] [] (.o 79 (DLe.bool c0) <| .g g0 <| .g s_countW_16 <| .o 88 (DLe.bool c1) <| .g g1 <| .o 103 (DLe.bool c2) <| .c (ES.emC (loseW_ok (c.cells.getD ((x78).toNat) 0) c.set c q pos ln o1 hy1) [0, 1] [some (.cells (consC c ++ probC q ++ [.ints pos, .msl 1 1 0 ln])), some (.ints o1)] (by kernel_rfl) (by kernel_rfl)) <| .g s_countW_18 <| .o 119 (DLe.bool c3) <| .g g1 <| .o 134 (DLe.bool c4) <| .o 139 (wr64 g2) <| .e) (hself (.l2 x3 x4 (x78 + 1) y1) r h m0 hm0) (by kernel_rfl) (by kernel_rfl)
        · obtain ⟨g2, h⟩ := guardSome h
          exact TrK.g hX sch_countW 25 [0, 3, 4, 76, 77, 78] [0, 1] [] (.o 79 (DLe.bool c0) <| .g g0 <| .g s_countW_16 <| .o 88 (DLe.bool c1) <| .g g1 <| .o 103 (DLe.bool c2) <| .c (ES.emC (loseW_ok (c.cells.getD ((x78).toNat) 0) c.set c q pos ln o1 hy1) [0, 1] [some (.cells (consC c ++ probC q ++ [.ints pos, .msl 1 1 0 ln])), some (.ints o1)] (by kernel_rfl) (by kernel_rfl)) <| .g s_countW_18 <| .o 119 (DLe.bool c3) <| .o 139 (wr64 g2) <| .e) (hself (.l2 x3 x4 (x78 + 1) y1) r h m0 hm0) (by kernel_rfl) (by kernel_rfl)
      · rcases bifSome h with ⟨c3, h⟩ | ⟨c3, h⟩
        · rcases bifSome h with ⟨c4, h⟩ | ⟨c4, h⟩
          · obtain ⟨y1, hy1, h⟩ := bindSome h
            obtain ⟨g2, h⟩ := guardSome h
            exact TrK.g hX sch_countW 25 [0, 3, 4, 76, 77, 78] [0, 1] [] (.o 79 (DLe.bool c0) <| .g g0 <| .g s_countW_16 <| .o 88 (DLe.bool c1) <| .g g1 <| .o 103 (DLe.bool c2) <| .g s_countW_18 <| .o 119 (DLe.bool c3) <| .g g1 <| .o 134 (DLe.bool c4) <| .c (ES.emC (onlyW_ok (c.cells.getD ((x78).toNat) 0) c q pos ln o1 hy1) [0, 1] [some (.cells (consC c ++ probC q ++ [.ints pos, .msl 1 1 0 ln])), some (.ints o1)] (by kernel_rfl) (by kernel_rfl)) <| .o 139 (wr64 g2) <| .e) (hself (.l2 x3 x4 (x78 + 1) y1) r h m0 hm0) (by kernel_rfl) (by kernel_rfl)
          · obtain ⟨g2, h⟩ := guardSome h
            exact TrK.g hX sch_countW 25 [0, 3, 4, 76, 77, 78] [0, 1] [] (.o 79 (DLe.bool c0) <| .g g0 <| .g s_countW_16 <| .o 88 (DLe.bool c1) <| .g g1 <| .o 103 (DLe.bool c2) <| .g s_countW_18 <| .o 119 (DLe.bool c3) <| .g g1 <| .o 134 (DLe.bool c4) <| .o 139 (wr64 g2) <| .e) (hself (.l2 x3 x4 (x78 + 1) o1) r h m0 hm0) (by kernel_rfl) (by kernel_rfl)
        · obtain ⟨g2, h⟩ := guardSome h
          exact TrK.g hX sch_countW 25 [0, 3, 4, 76, 77, 78] [0, 1] [] (.o 79 (DLe.bool c0) <| .g g0 <| .g s_countW_16 <| .o 88 (DLe.bool c1) <| .g g1 <| .o 103 (DLe.bool c2) <| .g s_countW_18 <| .o 119 (DLe.bool c3) <| .o 139 (wr64 g2) <| .e) (hself (.l2 x3 x4 (x78 + 1) o1) r h m0 hm0) (by kernel_rfl) (by kernel_rfl)
    · rcases bifSome h with ⟨c2, h⟩ | ⟨c2, h⟩
      · obtain ⟨g1, h⟩ := guardSome h
        rcases bifSome h with ⟨c3, h⟩ | ⟨c3, h⟩
        · obtain ⟨y1, hy1, h⟩ := bindSome h
          obtain ⟨g2, h⟩ := guardSome h
          exact TrK.g hX sch_countW 25 [0, 3, 4, 76, 77, 78] [0, 1] [] (.o 79 (DLe.bool c0) <| .g g0 <| .g s_countW_16 <| .o 88 (DLe.bool c1) <| .g s_countW_18 <| .o 119 (DLe.bool c2) <| .g g1 <| .o 134 (DLe.bool c3) <| .c (ES.emC (onlyW_ok (c.cells.getD ((x78).toNat) 0) c q pos ln o1 hy1) [0, 1] [some (.cells (consC c ++ probC q ++ [.ints pos, .msl 1 1 0 ln])), some (.ints o1)] (by kernel_rfl) (by kernel_rfl)) <| .o 139 (wr64 g2) <| .e) (hself (.l2 x3 x4 (x78 + 1) y1) r h m0 hm0) (by kernel_rfl) (by kernel_rfl)
        · obtain ⟨g2, h⟩ := guardSome h
          exact TrK.g hX sch_countW 25 [0, 3, 4, 76, 77, 78] [0, 1] [] (.o 79 (DLe.bool c0) <| .g g0 <| .g s_countW_16 <| .o 88 (DLe.bool c1) <| .g s_countW_18 <| .o 119 (DLe.bool c2) <| .g g1 <| .o 134 (DLe.bool c3) <| .o 139 (wr64 g2) <| .e) (hself (.l2 x3 x4 (x78 + 1) o1) r h m0 hm0) (by kernel_rfl) (by kernel_rfl)
      · obtain ⟨g1, h⟩ := guardSome h
        exact TrK.g hX sch_countW 25 [0, 3, 4, 76, 77, 78] [0, 1] [] (.o 79 (DLe.bool c0) <| .g g0 <| .g s_countW_16 <| .o 88 (DLe.bool c1) <| .g s_countW_18 <| .o 119 (DLe.bool c2) <| .o 139 (wr64 g1) <| .e) (hself (.l2 x3 x4 (x78 + 1) o1) r h m0 hm0) (by kernel_rfl) (by kernel_rfl)
  · cases h
    exact TrK.e hX sch_countW 12 [2] [0, 1] [] (.o 79 (DLe.bool c0) <| .e) [] .e (by kernel_rfl)
theorem countW_all (B : Nat) (N : Yard Tryd.prog GG 2) (c : ConsD) (q : ProbD) (pos : List Int) (ln : Nat) (lost : List Int) : ∀ (n : Nat) (pt : countWPt) (r : Bool × (List Int)), countW_m c q pos ln lost n pt = some r → countW_at n B N c q pos ln lost r pt
  | 0, _, _, h => by cases h
  | n + 1, .l1 x3 x4 x15, r, h => countW_p1 n B N (countW_m c q pos ln lost n) c q pos ln lost (countW_all B N c q pos ln lost n) x3 x4 x15 r h
  | n + 1, .l2 x3 x4 x78 o1, r, h => countW_p2 n B N (countW_m c q pos ln lost n) c q pos ln lost (countW_all B N c q pos ln lost n) x3 x4 x78 o1 r h
set_option maxRecDepth 100000 in
set_option maxHeartbeats 4000000 in
theorem countW_ok {n : Nat} (c : ConsD) (q : ProbD) (pos : List Int) (ln : Nat) (lost : List Int) {r : Bool × (List Int)} (h : countW n c q pos ln lost = some r) : ES Tryd.prog GG 41 [.ref 0 0] [some (.cells (consC c ++ probC q ++ [.ints pos, .msl 1 1 0 ln])), some (.ints lost)] (.bool r.1) [some (.cells (consC c ++ probC q ++ [.ints pos, .msl 1 1 0 ln])), some (.ints r.2)] false := by
  have hX : HX Fence.wide Tryd.prog := ⟨FOk.wide, by kernel_rfl⟩
  refine ES.of_trk Tryd.func41 (by kernel_rfl) (by kernel_rfl) (noIterB (by kernel_rfl)) (fun e => by cases e) fun B N => ?_
  have hself := countW_all B N c q pos ln lost n
  unfold countW at h
  generalize countW_m c q pos ln lost n = self at h hself
  unfold countW_l0 at h
  exact TrK.g hX sch_countW 13 [0, 3, 4, 13, 14, 15] [0, 1] [] .e (TrK.enter n (by kernel_rfl) (hself (.l1 0 0 0) r h n (Nat.le_refl _))) (by kernel_rfl) (by kernel_rfl)


end Go.Proofs.YtekkngkphejfcaaDoor
