/- Functions read off the code: pruning, connections. -/
import Derived.Test.YtekkngkphejfcaaDoorHk
namespace Go.Proofs.YtekkngkphejfcaaDoor
open Go.RowKit

def t_nodesW_1 : ST := .rd 0 (.rd 1 (.rd 2 (.rd 3 (.rd 4 (.rd 6 (.rd 7 (.rd 8 (.rd 9 (.rd 10 (.ef 5 (.rd 12 (.ef 11 (.rd 13 (.fin [0, 1] [0, 2, 3])) (.no))) (.ef 11 (.ef 5 (.rd 12 (.rd 13 (.fin [1, 0] [0, 2, 3]))) (.no)) (.no))))))))))))
def a_nodesW_1 : Prop := TOk (regF Tryd.f67 1) [5, 11] t_nodesW_1
theorem s_nodesW_1 : a_nodesW_1 := by unfold a_nodesW_1 TOk; kernel_rfl
def t_nodesW_5 : ST := .rd 0 (.rd 1 (.rd 2 (.rd 3 (.rd 4 (.rd 5 (.rd 6 (.rd 7 (.rd 8 (.rd 9 (.rd 10 (.rd 11 (.rd 12 (.rd 13 (.rd 14 (.rd 15 (.rd 16 (.rd 17 (.rd 18 (.rd 19 (.rd 20 (.rd 21 (.rd 22 (.rd 23 (.rd 24 (.rd 25 (.rd 26 (.rd 27 (.rd 28 (.rd 29 (.rd 30 (.rd 31 (.rd 32 (.ef 33 (.rd 34 (.ef 35 (.fin [] [0, 2, 3, 30, 31, 32]) (.no))) (.no))))))))))))))))))))))))))))))))))
def a_nodesW_5 : Prop := TOk (regF Tryd.f67 5) [33] t_nodesW_5
theorem s_nodesW_5 : a_nodesW_5 := by unfold a_nodesW_5 TOk; kernel_rfl
def sch_nodesW : Sch := fun i => match i with
  | 1 => .tre [5, 11] t_nodesW_1
  | 5 => .tre [33] t_nodesW_5
  | _ => .no
def tgt_nodesW_0 (pos : List Int) (c : ConsD) (q : ProbD) (ln : Nat) (lost : List Int) : St := ⟨(frm 120 [(0, .ref 0 0), (2, .msl 2 1 0 pos.length), (3, .msl 3 1 0 pos.length)]), ([some (.cells (consC c ++ probC q ++ [.ints pos, .msl 1 1 0 ln])), some (.ints lost), some (.bools (List.replicate pos.length false)), some (.bools (List.replicate pos.length false))] : DH)⟩
def tgt_nodesW_1 (pos : List Int) (c : ConsD) (x32 : Int) (q : ProbD) (ln : Nat) (lost : List Int) (o2 o3 : List Bool) : St := ⟨(frm 120 [(0, .ref 0 0), (2, .msl 2 1 0 pos.length), (3, .msl 3 1 0 pos.length), (30, .ints c.cells), (31, .int .i64 ((c.cells.length : Nat) : Int)), (32, .int .i64 x32)]), ([some (.cells (consC c ++ probC q ++ [.ints pos, .msl 1 1 0 ln])), some (.ints lost), some (.bools (o2.set (0 + ((c.cells.getD ((x32).toNat) 0).toNat)) ((bits .and .i64 (pos.getD ((c.cells.getD ((x32).toNat) 0).toNat) 0) c.set) != 0))), some (.bools (o3.set (0 + ((c.cells.getD ((x32).toNat) 0).toNat)) ((bits .andNot .i64 (pos.getD ((c.cells.getD ((x32).toNat) 0).toNat) 0) c.set) == 0)))] : DH)⟩
def hp_nodesW_2 (c : ConsD) (q : ProbD) (pos : List Int) (ln : Nat) (lost : List Int) (o2 o3 : List Bool) : DH := [some (.cells (consC c ++ probC q ++ [.ints pos, .msl 1 1 0 ln])), some (.ints lost), some (.bools o2), some (.bools o3)]
def hp_nodesW_3 (c : ConsD) (q : ProbD) (pos : List Int) (ln : Nat) (lost : List Int) (o3 : List Bool) (y2 : (List Bool)) : DH := [some (.cells (consC c ++ probC q ++ [.ints pos, .msl 1 1 0 ln])), some (.ints lost), none, some (.bools o3), some (.bools y2)]
inductive nodesWPt where
  | l1 (x32 : Int) (o2 o3 : List Bool)
  | l2 (x2t2 : List Bool) (x8 : Nat) (x90 : List Int) (x91 x92 : Int) (o2 o3 : List Bool)
  | l3 (x2t2 : List Bool) (x8 : Nat) (x101 x102 : Int) (o1 : List Int) (o2 o3 : List Bool)
def nodesW_l1 (n : Nat) (self : nodesWPt → Option ((List Bool) × (List Bool) × Bool × (List Int))) (c : ConsD) (q : ProbD) (pos : List Int) (ln : Nat) (lost : List Int) (x32 : Int) (o2 o3 : List Bool) : Option ((List Bool) × (List Bool) × Bool × (List Int)) :=
  bif (decide (x32 < ((c.cells.length : Nat) : Int))) then
   if ((0 : Int) ≤ x32 ∧ x32 < ((c.cells.length : Nat) : Int)) ∧ ((0 : Int) ≤ (c.cells.getD ((x32).toNat) 0) ∧ (c.cells.getD ((x32).toNat) 0) < ((pos.length : Nat) : Int)) ∧ 0 + ((c.cells.getD ((x32).toNat) 0).toNat) < o2.length ∧ 0 + ((c.cells.getD ((x32).toNat) 0).toNat) < o3.length ∧ R64 (x32 + 1) then
    self (.l1 (x32 + 1) (o2.set (0 + ((c.cells.getD ((x32).toNat) 0).toNat)) ((bits .and .i64 (pos.getD ((c.cells.getD ((x32).toNat) 0).toNat) 0) c.set) != 0)) (o3.set (0 + ((c.cells.getD ((x32).toNat) 0).toNat)) ((bits .andNot .i64 (pos.getD ((c.cells.getD ((x32).toNat) 0).toNat) 0) c.set) == 0)))
   else none
  else
   if pos.length = o3.length then
    (indexB n o3 true).bind fun y1 =>
     bif (decide (y1 < 0)) then
      if pos.length = o2.length then
       some (o2, o3, false, lost)
      else none
     else
      if pos.length = o2.length then
       (cloneB n o2).bind fun y2 =>
        (component n q.nbrs o2 y1).bind fun y3 =>
         self (.l2 o2 y2.length y3.1 ((y3.1.length : Nat) : Int) 0 o3 y2)
      else none
   else none
def nodesW_l2 (n : Nat) (self : nodesWPt → Option ((List Bool) × (List Bool) × Bool × (List Int))) (c : ConsD) (q : ProbD) (pos : List Int) (ln : Nat) (lost : List Int) (x2t2 : List Bool) (x8 : Nat) (x90 : List Int) (x91 x92 : Int) (o2 o3 : List Bool) : Option ((List Bool) × (List Bool) × Bool × (List Int)) :=
  bif (decide (x92 < x91)) then
   if ((0 : Int) ≤ x92 ∧ x92 < ((x90.length : Nat) : Int)) ∧ ((0 : Int) ≤ (x90.getD ((x92).toNat) 0) ∧ (x90.getD ((x92).toNat) 0) < ((x8 : Nat) : Int)) ∧ 0 + ((x90.getD ((x92).toNat) 0).toNat) < o3.length ∧ R64 (x92 + 1) then
    self (.l2 x2t2 x8 x90 x91 (x92 + 1) o2 (o3.set (0 + ((x90.getD ((x92).toNat) 0).toNat)) false))
   else none
  else
   self (.l3 x2t2 x8 ((x8 : Nat) : Int) 0 lost o2 o3)
def nodesW_l3 (n : Nat) (self : nodesWPt → Option ((List Bool) × (List Bool) × Bool × (List Int))) (c : ConsD) (q : ProbD) (pos : List Int) (ln : Nat) (lost : List Int) (x2t2 : List Bool) (x8 : Nat) (x101 x102 : Int) (o1 : List Int) (o2 o3 : List Bool) : Option ((List Bool) × (List Bool) × Bool × (List Int)) :=
  bif (decide (x102 < x101)) then
   if ((0 : Int) ≤ x102 ∧ x102 < ((x8 : Nat) : Int)) ∧ 0 + ((x102).toNat) < o3.length then
    bif (o3.getD (0 + ((x102).toNat)) false) then
     (loseW n x102 c.set c q pos ln o1).bind fun y1 =>
      if R64 (x102 + 1) then
       self (.l3 x2t2 x8 x101 (x102 + 1) y1 o2 o3)
      else none
    else
     if R64 (x102 + 1) then
      self (.l3 x2t2 x8 x101 (x102 + 1) o1 o2 o3)
     else none
   else none
  else
   if pos.length = o2.length then
    some (x2t2, o2, true, o1)
   else none
def nodesW_l0 (n : Nat) (self : nodesWPt → Option ((List Bool) × (List Bool) × Bool × (List Int))) (c : ConsD) (q : ProbD) (pos : List Int) (ln : Nat) (lost : List Int) : Option ((List Bool) × (List Bool) × Bool × (List Int)) :=
  if (((pos.length : Nat) : Int) : Int) = ((pos.length : Nat) : Int) ∧ (0 : Int) ≤ ((pos.length : Nat) : Int) ∧ (((pos.length : Nat) : Int) : Int) ≤ 1000000000000 then
   self (.l1 0 (List.replicate pos.length false) (List.replicate pos.length false))
  else none
def nodesW_m (c : ConsD) (q : ProbD) (pos : List Int) (ln : Nat) (lost : List Int) : Nat → nodesWPt → Option ((List Bool) × (List Bool) × Bool × (List Int))
  | 0, _ => none
  | n + 1, .l1 x32 o2 o3 => nodesW_l1 n (nodesW_m c q pos ln lost n) c q pos ln lost x32 o2 o3
  | n + 1, .l2 x2t2 x8 x90 x91 x92 o2 o3 => nodesW_l2 n (nodesW_m c q pos ln lost n) c q pos ln lost x2t2 x8 x90 x91 x92 o2 o3
  | n + 1, .l3 x2t2 x8 x101 x102 o1 o2 o3 => nodesW_l3 n (nodesW_m c q pos ln lost n) c q pos ln lost x2t2 x8 x101 x102 o1 o2 o3
def nodesW (n : Nat) (c : ConsD) (q : ProbD) (pos : List Int) (ln : Nat) (lost : List Int) : Option ((List Bool) × (List Bool) × Bool × (List Int)) := nodesW_l0 n (nodesW_m c q pos ln lost n) c q pos ln lost
/-- What the points stand for. -/
def nodesW_at (n : Nat) (B : Nat) (N : Yard Tryd.prog GG 2) (c : ConsD) (q : ProbD) (pos : List Int) (ln : Nat) (lost : List Int) (r : (List Bool) × (List Bool) × Bool × (List Int)) : nodesWPt → Prop
  | .l1 x32 o2 o3 => ∀ m0 : Nat, n ≤ m0 → TrK Tryd.prog GG Fence.wide (some B) 2 N (Fin Tryd.prog Tryd.f67 2 (.tup 3 (L1 [.bools r.1, .bools r.2.1, .bool r.2.2.1])) [some (.cells (consC c ++ probC q ++ [.ints pos, .msl 1 1 0 ln])), some (.ints r.2.2.2)]) (toN m0 (atNC (bodyC Tryd.f67) 0 [])) ⟨frm 120 [(0, .ref 0 0), (2, .msl 2 1 0 pos.length), (3, .msl 3 1 0 pos.length), (30, .ints c.cells), (31, .int .i64 ((c.cells.length : Nat) : Int)), (32, .int .i64 x32)], [some (.cells (consC c ++ probC q ++ [.ints pos, .msl 1 1 0 ln])), some (.ints lost), some (.bools o2), some (.bools o3)]⟩
  | .l2 x2t2 x8 x90 x91 x92 o2 o3 => ∀ m0 : Nat, n ≤ m0 → TrK Tryd.prog GG Fence.wide (some B) 2 N (Fin Tryd.prog Tryd.f67 2 (.tup 3 (L1 [.bools r.1, .bools r.2.1, .bool r.2.2.1])) [some (.cells (consC c ++ probC q ++ [.ints pos, .msl 1 1 0 ln])), some (.ints r.2.2.2)]) (toN m0 (atNC (bodyC Tryd.f67) 2 [])) ⟨frm 120 [(0, .ref 0 0), (2, .bools x2t2), (3, .msl 2 1 0 pos.length), (8, .msl 3 1 0 x8), (90, .ints x90), (91, .int .i64 x91), (92, .int .i64 x92)], [some (.cells (consC c ++ probC q ++ [.ints pos, .msl 1 1 0 ln])), some (.ints lost), some (.bools o2), some (.bools o3)]⟩
  | .l3 x2t2 x8 x101 x102 o1 o2 o3 => ∀ m0 : Nat, n ≤ m0 → TrK Tryd.prog GG Fence.wide (some B) 2 N (Fin Tryd.prog Tryd.f67 2 (.tup 3 (L1 [.bools r.1, .bools r.2.1, .bool r.2.2.1])) [some (.cells (consC c ++ probC q ++ [.ints pos, .msl 1 1 0 ln])), some (.ints r.2.2.2)]) (toN m0 (atNC (bodyC Tryd.f67) 4 [])) ⟨frm 120 [(0, .ref 0 0), (2, .bools x2t2), (3, .msl 2 1 0 pos.length), (8, .msl 3 1 0 x8), (101, .int .i64 x101), (102, .int .i64 x102)], [some (.cells (consC c ++ probC q ++ [.ints pos, .msl 1 1 0 ln])), some (.ints o1), some (.bools o2), some (.bools o3)]⟩
set_option maxRecDepth 100000 in
set_option maxHeartbeats 4000000 in
theorem nodesW_p1 (n B : Nat) (N : Yard Tryd.prog GG 2) (self : nodesWPt → Option ((List Bool) × (List Bool) × Bool × (List Int))) (c : ConsD) (q : ProbD) (pos : List Int) (ln : Nat) (lost : List Int) (hself : ∀ pt r, self pt = some r → nodesW_at n B N c q pos ln lost r pt) (x32 : Int) (o2 o3 : List Bool) (r : (List Bool) × (List Bool) × Bool × (List Int)) (h : nodesW_l1 n self c q pos ln lost x32 o2 o3 = some r) : nodesW_at (n + 1) B N c q pos ln lost r (.l1 x32 o2 o3) := by
  have hX : HX Fence.wide Tryd.prog := ⟨FOk.wide, by kernel_rfl⟩
  intro m0 hm0
  refine TrK.round hm0 (by kernel_rfl) fun m0 hm0 => ?_
  unfold nodesW_l1 at h
  rcases bifSome h with ⟨c0, h⟩ | ⟨c0, h⟩
  · obtain ⟨⟨g0, g1, g2, g3, g4⟩, h⟩ := guardSome h
    exact TrK.g hX sch_nodesW 17 [0, 2, 3, 30, 31, 32] [0, 1, 2, 3] [([(33, 2)], (tgt_nodesW_1 pos c x32 q ln lost o2 o3))] (.o 33 (DLe.bool c0) <| .g g0 <| .g s_nodesW_5 <| .g g1 <| .g g1 <| .g g1 <| .g g2 <| .g g1 <| .g g3 <| .g (Eq.refl (tgt_nodesW_1 pos c x32 q ln lost o2 o3)) <| .o 70 (wr64 g4) <| .e) (hself (.l1 (x32 + 1) (o2.set (0 + ((c.cells.getD ((x32).toNat) 0).toNat)) ((bits .and .i64 (pos.getD ((c.cells.getD ((x32).toNat) 0).toNat) 0) c.set) != 0)) (o3.set (0 + ((c.cells.getD ((x32).toNat) 0).toNat)) ((bits .andNot .i64 (pos.getD ((c.cells.getD ((x32).toNat) 0).toNat) 0) c.set) == 0))) r h m0 hm0) (by kernel_rfl) (by kernel_rfl)
  · obtain ⟨g0, h⟩ := guardSome h
    obtain ⟨y1, hy1, h⟩ := bindSome h
    rcases bifSome h with ⟨c1, h⟩ | ⟨c1, h⟩
    · obtain ⟨g1, h⟩ := guardSome h
      cases h
      exact TrK.e hX sch_nodesW 18 [2, 3, 4] [0, 1, 2, 3] [] (.o 33 (DLe.bool c0) <| .c (ES.snapB (ds := [.msl 3 1 0 pos.length, .bool true]) (indexB_ok o3 true hy1) (hp_nodesW_2 c q pos ln lost o2 o3) ⟨Snap.bools rfl g0, Snap.plain (by kernel_rfl), trivial⟩ (by kernel_rfl)) <| .o 74 (DLe.bool c1) <| .e) [2, 3] (.g g1 <| .g g0 <| .e) (by kernel_rfl)
    · obtain ⟨g1, h⟩ := guardSome h
      obtain ⟨y2, hy2, h⟩ := bindSome h
      refine TrK.gS hX (stopAt 11 sch_nodesW) 20 [0, 2, 3, 7, 8] [0, 1, 2, 3, 4] [] (.o 33 (DLe.bool c0) <| .c (ES.snapB (ds := [.msl 3 1 0 pos.length, .bool true]) (indexB_ok o3 true hy1) (hp_nodesW_2 c q pos ln lost o2 o3) ⟨Snap.bools rfl g0, Snap.plain (by kernel_rfl), trivial⟩ (by kernel_rfl)) <| .o 74 (DLe.bool c1) <| .c (ES.snapNew (ds := [.msl 2 1 0 pos.length]) (cloneB_ok o2 hy2) (hp_nodesW_2 c q pos ln lost o2 o3) ⟨Snap.bools rfl g1, trivial⟩ rfl) <| .e) [2] (.g g1 <| .e) (atGC (bodyC Tryd.f67) 11 []) (frm 120 [(0, .ref 0 0), (2, .bools o2), (3, .msl 3 1 0 pos.length), (7, .int .i64 y1), (8, .msl 4 1 0 y2.length)]) (hp_nodesW_3 c q pos ln lost o3 y2) (by kernel_rfl) (by kernel_rfl) ?_
      obtain ⟨y3, hy3, h⟩ := bindSome h
      exact TrK.g hX sch_nodesW 10 [0, 2, 3, 8, 90, 91, 92] [0, 1, 3, 4] [] (.c (ES.frameB (component_ok q.nbrs o2 y1 hy3) (hp_nodesW_3 c q pos ln lost o3 y2) (by kernel_rfl)) <| .e) (TrK.enter n (by kernel_rfl) (hself (.l2 o2 y2.length y3.1 ((y3.1.length : Nat) : Int) 0 o3 y2) r h n (Nat.le_refl _))) (by kernel_rfl) (by kernel_rfl)
set_option maxRecDepth 100000 in
set_option maxHeartbeats 4000000 in
theorem nodesW_p2 (n B : Nat) (N : Yard Tryd.prog GG 2) (self : nodesWPt → Option ((List Bool) × (List Bool) × Bool × (List Int))) (c : ConsD) (q : ProbD) (pos : List Int) (ln : Nat) (lost : List Int) (hself : ∀ pt r, self pt = some r → nodesW_at n B N c q pos ln lost r pt) (x2t2 : List Bool) (x8 : Nat) (x90 : List Int) (x91 x92 : Int) (o2 o3 : List Bool) (r : (List Bool) × (List Bool) × Bool × (List Int)) (h : nodesW_l2 n self c q pos ln lost x2t2 x8 x90 x91 x92 o2 o3 = some r) : nodesW_at (n + 1) B N c q pos ln lost r (.l2 x2t2 x8 x90 x91 x92 o2 o3) := by
  have hX : HX Fence.wide Tryd.prog := ⟨FOk.wide, by kernel_rfl⟩
  intro m0 hm0
  refine TrK.round hm0 (by kernel_rfl) fun m0 hm0 => ?_
  unfold nodesW_l2 at h
  rcases bifSome h with ⟨c0, h⟩ | ⟨c0, h⟩
  · obtain ⟨⟨g0, g1, g2, g3⟩, h⟩ := guardSome h
    exact TrK.g hX sch_nodesW 17 [0, 2, 3, 8, 90, 91, 92] [0, 1, 2, 3] [] (.o 93 (DLe.bool c0) <| .g g0 <| .g g1 <| .g g2 <| .o 99 (wr64 g3) <| .e) (hself (.l2 x2t2 x8 x90 x91 (x92 + 1) o2 (o3.set (0 + ((x90.getD ((x92).toNat) 0).toNat)) false)) r h m0 hm0) (by kernel_rfl) (by kernel_rfl)
  · exact TrK.g hX sch_nodesW 14 [0, 2, 3, 8, 101, 102] [0, 1, 2, 3] [] (.o 93 (DLe.bool c0) <| .e) (TrK.enter n (by kernel_rfl) (hself (.l3 x2t2 x8 ((x8 : Nat) : Int) 0 lost o2 o3) r h n (Nat.le_refl _))) (by kernel_rfl) (by kernel_rfl)
set_option maxRecDepth 100000 in
set_option maxHeartbeats 4000000 in
theorem nodesW_p3 (n B : Nat) (N : Yard Tryd.prog GG 2) (self : nodesWPt → Option ((List Bool) × (List Bool) × Bool × (List Int))) (c : ConsD) (q : ProbD) (pos : List Int) (ln : Nat) (lost : List Int) (hself : ∀ pt r, self pt = some r → nodesW_at n B N c q pos ln lost r pt) (x2t2 : List Bool) (x8 : Nat) (x101 x102 : Int) (o1 : List Int) (o2 o3 : List Bool) (r : (List Bool) × (List Bool) × Bool × (List Int)) (h : nodesW_l3 n self c q pos ln lost x2t2 x8 x101 x102 o1 o2 o3 = some r) : nodesW_at (n + 1) B N c q pos ln lost r (.l3 x2t2 x8 x101 x102 o1 o2 o3) := by
  have hX : HX Fence.wide Tryd.prog := ⟨FOk.wide, by kernel_rfl⟩
  intro m0 hm0
  refine TrK.round hm0 (by kernel_rfl) fun m0 hm0 => ?_
  unfold nodesW_l3 at h
  rcases bifSome h with ⟨c0, h⟩ | ⟨c0, h⟩
  · obtain ⟨⟨g0, g1⟩, h⟩ := guardSome h
    rcases bifSome h with ⟨c1, h⟩ | ⟨c1, h⟩
    · obtain ⟨y1, hy1, h⟩ := bindSome h
      obtain ⟨g2, h⟩ := guardSome h
      exact TrK.g hX sch_nodesW 20 [0, 2, 3, 8, 101, 102] [0, 1, 2, 3] [] (.o 103 (DLe.bool c0) <| .g g0 <| .g g1 <| .o 108 (DLe.bool c1) <| .c (ES.emC (loseW_ok x102 c.set c q pos ln o1 hy1) [0, 1] [some (.cells (consC c ++ probC q ++ [.ints pos, .msl 1 1 0 ln])), some (.ints o1), some (.bools o2), some (.bools o3)] (by kernel_rfl) (by kernel_rfl)) <| .o 117 (wr64 g2) <| .e) (hself (.l3 x2t2 x8 x101 (x102 + 1) y1 o2 o3) r h m0 hm0) (by kernel_rfl) (by kernel_rfl)
    · obtain ⟨g2, h⟩ := guardSome h
      exact TrK.g hX sch_nodesW 20 [0, 2, 3, 8, 101, 102] [0, 1, 2, 3] [] (.o 103 (DLe.bool c0) <| .g g0 <| .g g1 <| .o 108 (DLe.bool c1) <| .o 117 (wr64 g2) <| .e) (hself (.l3 x2t2 x8 x101 (x102 + 1) o1 o2 o3) r h m0 hm0) (by kernel_rfl) (by kernel_rfl)
  · obtain ⟨g0, h⟩ := guardSome h
    cases h
    exact TrK.e hX sch_nodesW 12 [2, 3, 4] [0, 1, 2] [] (.o 103 (DLe.bool c0) <| .e) [2] (.g g0 <| .e) (by kernel_rfl)
theorem nodesW_all (B : Nat) (N : Yard Tryd.prog GG 2) (c : ConsD) (q : ProbD) (pos : List Int) (ln : Nat) (lost : List Int) : ∀ (n : Nat) (pt : nodesWPt) (r : (List Bool) × (List Bool) × Bool × (List Int)), nodesW_m c q pos ln lost n pt = some r → nodesW_at n B N c q pos ln lost r pt
  | 0, _, _, h => by cases h
  | n + 1, .l1 x32 o2 o3, r, h => nodesW_p1 n B N (nodesW_m c q pos ln lost n) c q pos ln lost (nodesW_all B N c q pos ln lost n) x32 o2 o3 r h
  | n + 1, .l2 x2t2 x8 x90 x91 x92 o2 o3, r, h => nodesW_p2 n B N (nodesW_m c q pos ln lost n) c q pos ln lost (nodesW_all B N c q pos ln lost n) x2t2 x8 x90 x91 x92 o2 o3 r h
  | n + 1, .l3 x2t2 x8 x101 x102 o1 o2 o3, r, h => nodesW_p3 n B N (nodesW_m c q pos ln lost n) c q pos ln lost (nodesW_all B N c q pos ln lost n) x2t2 x8 x101 x102 o1 o2 o3 r h
set_option maxRecDepth 100000 in
set_option maxHeartbeats 4000000 in
theorem nodesW_ok {n : Nat} (c : ConsD) (q : ProbD) (pos : List Int) (ln : Nat) (lost : List Int) {r : (List Bool) × (List Bool) × Bool × (List Int)} (h : nodesW n c q pos ln lost = some r) : ES Tryd.prog GG 67 [.ref 0 0] [some (.cells (consC c ++ probC q ++ [.ints pos, .msl 1 1 0 ln])), some (.ints lost)] (.tup 3 (L1 [.bools r.1, .bools r.2.1, .bool r.2.2.1])) [some (.cells (consC c ++ probC q ++ [.ints pos, .msl 1 1 0 ln])), some (.ints r.2.2.2)] false := by
  have hX : HX Fence.wide Tryd.prog := ⟨FOk.wide, by kernel_rfl⟩
  refine ES.of_trk Tryd.func67 (by kernel_rfl) (by kernel_rfl) (noIterB (by kernel_rfl)) (fun e => by cases e) fun B N => ?_
  have hself := nodesW_all B N c q pos ln lost n
  unfold nodesW at h
  generalize nodesW_m c q pos ln lost n = self at h hself
  unfold nodesW_l0 at h
  obtain ⟨g0, h⟩ := guardSome h
  exact TrK.g hX sch_nodesW 13 [0, 2, 3, 30, 31, 32] [0, 1, 2, 3] [([], (tgt_nodesW_0 pos c q ln lost))] (.g s_nodesW_1 <| .g g0 <| .g g0 <| .g (Eq.refl (tgt_nodesW_0 pos c q ln lost)) <| .g g0 <| .g g0 <| .g (Eq.refl (tgt_nodesW_0 pos c q ln lost)) <| .e) (TrK.enter n (by kernel_rfl) (hself (.l1 0 (List.replicate pos.length false) (List.replicate pos.length false)) r h n (Nat.le_refl _))) (by kernel_rfl) (by kernel_rfl)


def sch_connW : Sch := fun i => match i with
  | _ => .no
inductive connWPt where
  | l1 (x3 x4 : List Bool) (x5 : Bool) (x16 x17 : Int) (o1 : List Int)
def connW_l1 (n : Nat) (self : connWPt → Option (Bool × (List Int))) (c : ConsD) (q : ProbD) (pos : List Int) (ln : Nat) (lost : List Int) (x3 x4 : List Bool) (x5 : Bool) (x16 x17 : Int) (o1 : List Int) : Option (Bool × (List Int)) :=
  bif (decide (x17 < x16)) then
   bif (!x5) then
    if R64 (x17 + 1) then
     self (.l1 x3 x4 x5 x16 (x17 + 1) o1)
    else none
   else
    if (0 : Int) ≤ x17 ∧ x17 < ((x3.length : Nat) : Int) then
     bif (!(x3.getD ((x17).toNat) false)) then
      if R64 (x17 + 1) then
       self (.l1 x3 x4 x5 x16 (x17 + 1) o1)
      else none
     else
      if (0 : Int) ≤ x17 ∧ x17 < ((x4.length : Nat) : Int) then
       bif (x4.getD ((x17).toNat) false) then
        if R64 (x17 + 1) then
         self (.l1 x3 x4 x5 x16 (x17 + 1) o1)
        else none
       else
        (splits n q.nbrs x3 x4 x17).bind fun y1 =>
         bif y1.1 then
          (onlyW n x17 c q pos ln o1).bind fun y2 =>
           if R64 (x17 + 1) then
            self (.l1 x3 x4 x5 x16 (x17 + 1) y2)
           else none
         else
          if R64 (x17 + 1) then
           self (.l1 x3 x4 x5 x16 (x17 + 1) o1)
          else none
      else none
    else none
  else
   some (true, o1)
def connW_l0 (n : Nat) (self : connWPt → Option (Bool × (List Int))) (c : ConsD) (q : ProbD) (pos : List Int) (ln : Nat) (lost : List Int) : Option (Bool × (List Int)) :=
  (nodesW n c q pos ln lost).bind fun y1 =>
   self (.l1 y1.1 y1.2.1 y1.2.2.1 ((y1.1.length : Nat) : Int) 0 y1.2.2.2)
def connW_m (c : ConsD) (q : ProbD) (pos : List Int) (ln : Nat) (lost : List Int) : Nat → connWPt → Option (Bool × (List Int))
  | 0, _ => none
  | n + 1, .l1 x3 x4 x5 x16 x17 o1 => connW_l1 n (connW_m c q pos ln lost n) c q pos ln lost x3 x4 x5 x16 x17 o1
def connW (n : Nat) (c : ConsD) (q : ProbD) (pos : List Int) (ln : Nat) (lost : List Int) : Option (Bool × (List Int)) := connW_l0 n (connW_m c q pos ln lost n) c q pos ln lost
/-- What the points stand for. -/
def connW_at (n : Nat) (B : Nat) (N : Yard Tryd.prog GG 2) (c : ConsD) (q : ProbD) (pos : List Int) (ln : Nat) (lost : List Int) (r : Bool × (List Int)) : connWPt → Prop
  | .l1 x3 x4 x5 x16 x17 o1 => ∀ m0 : Nat, n ≤ m0 → TrK Tryd.prog GG Fence.wide (some B) 2 N (Fin Tryd.prog Tryd.f47 2 (.bool r.1) [some (.cells (consC c ++ probC q ++ [.ints pos, .msl 1 1 0 ln])), some (.ints r.2)]) (toN m0 (atNC (bodyC Tryd.f47) 0 [])) ⟨frm 52 [(0, .ref 0 0), (3, .bools x3), (4, .bools x4), (5, .bool x5), (16, .int .i64 x16), (17, .int .i64 x17)], [some (.cells (consC c ++ probC q ++ [.ints pos, .msl 1 1 0 ln])), some (.ints o1)]⟩
set_option maxRecDepth 100000 in
set_option maxHeartbeats 4000000 in
theorem connW_p1 (n B : Nat) (N : Yard Tryd.prog GG 2) (self : connWPt → Option (Bool × (List Int))) (c : ConsD) (q : ProbD) (pos : List Int) (ln : Nat) (lost : List Int) (hself : ∀ pt r, self pt = some r → connW_at n B N c q pos ln lost r pt) (x3 x4 : List Bool) (x5 : Bool) (x16 x17 : Int) (o1 : List Int) (r : Bool × (List Int)) (h : connW_l1 n self c q pos ln lost x3 x4 x5 x16 x17 o1 = some r) : connW_at (n + 1) B N c q pos ln lost r (.l1 x3 x4 x5 x16 x17 o1) := by
  have hX : HX Fence.wide Tryd.prog := ⟨FOk.wide, by kernel_rfl⟩
  intro m0 hm0
  refine TrK.round hm0 (by kernel_rfl) fun m0 hm0 => ?_
  unfold connW_l1 at h
  rcases bifSome h with ⟨c0, h⟩ | ⟨c0, h⟩
  · rcases bifSome h with ⟨c1, h⟩ | ⟨c1, h⟩
    · obtain ⟨g0, h⟩ := guardSome h
      exact TrK.g hX sch_connW 20 [0, 3, 4, 5, 16, 17] [0, 1] [] (.o 18 (DLe.bool c0) <| .o 21 (DLe.bool c1) <| .o 51 (wr64 g0) <| .e) (hself (.l1 x3 x4 x5 x16 (x17 + 1) o1) r h m0 hm0) (by kernel_rfl) (by kernel_rfl)
    · obtain ⟨g0, h⟩ := guardSome h
      rcases bifSome h with ⟨c2, h⟩ | ⟨c2, h⟩
      · obtain ⟨g1, h⟩ := guardSome h
        exact TrK.g hX sch_connW 20 [0, 3, 4, 5, 16, 17] [0, 1] [] (.o 18 (DLe.bool c0) <| .o 21 (DLe.bool c1) <| .g g0 <| .o 27 (DLe.bool c2) <| .o 51 (wr64 g1) <| .e) (hself (.l1 x3 x4 x5 x16 (x17 + 1) o1) r h m0 hm0) (by kernel_rfl) (by kernel_rfl)
      · obtain ⟨g1, h⟩ := guardSome h
        rcases bifSome h with ⟨c3, h⟩ | ⟨c3, h⟩
        · obtain ⟨g2, h⟩ := guardSome h
          exact TrK.g hX sch_connW 20 [0, 3, 4, 5, 16, 17] [0, 1] [] (.o 18 (DLe.bool c0) <| .o 21 (DLe.bool c1) <| .g g0 <| .o 27 (DLe.bool c2) <| .g g1 <| .o 33 (DLe.bool c3) <| .o 51 (wr64 g2) <| .e) (hself (.l1 x3 x4 x5 x16 (x17 + 1) o1) r h m0 hm0) (by kernel_rfl) (by kernel_rfl)
        · obtain ⟨y1, hy1, h⟩ := bindSome h
          rcases bifSome h with ⟨c4, h⟩ | ⟨c4, h⟩
          · obtain ⟨y2, hy2, h⟩ := bindSome h
            obtain ⟨g2, h⟩ := guardSome h
            exact TrK.g hX sch_connW 27 [0, 3, 4, 5, 16, 17] [0, 1] [] (.o 18 (DLe.bool c0) <| .o 21 (DLe.bool c1) <| .g g0 <| .o 27 (DLe.bool c2) <| .g g1 <| .o 33 (DLe.bool c3) <| .c (ES.frameB (splits_ok q.nbrs x3 x4 x17 hy1) [some (.cells (consC c ++ probC q ++ [.ints pos, .msl 1 1 0 ln])), some (.ints o1)] (by kernel_rfl)) <| .o 45 (DLe.bool c4) <| .c (ES.emC (onlyW_ok x17 c q pos ln o1 hy2) [0, 1] [some (.cells (consC c ++ probC q ++ [.ints pos, .msl 1 1 0 ln])), some (.ints o1)] (by kernel_rfl) (by kernel_rfl)) <| .o 51 (wr64 g2) <| .e) (hself (.l1 x3 x4 x5 x16 (x17 + 1) y2) r h m0 hm0) (by kernel_rfl) (by kernel_rfl)
          · obtain ⟨g2, h⟩ := guardSome h
            exact TrK.g hX sch_connW 27 [0, 3, 4, 5, 16, 17] [0, 1] [] (.o 18 (DLe.bool c0) <| .o 21 (DLe.bool c1) <| .g g0 <| .o 27 (DLe.bool c2) <| .g g1 <| .o 33 (DLe.bool c3) <| .c (ES.frameB (splits_ok q.nbrs x3 x4 x17 hy1) [some (.cells (consC c ++ probC q ++ [.ints pos, .msl 1 1 0 ln])), some (.ints o1)] (by kernel_rfl)) <| .o 45 (DLe.bool c4) <| .o 51 (wr64 g2) <| .e) (hself (.l1 x3 x4 x5 x16 (x17 + 1) o1) r h m0 hm0) (by kernel_rfl) (by kernel_rfl)
  · cases h
    exact TrK.e hX sch_connW 12 [2] [0, 1] [] (.o 18 (DLe.bool c0) <| .e) [] .e (by kernel_rfl)
theorem connW_all (B : Nat) (N : Yard Tryd.prog GG 2) (c : ConsD) (q : ProbD) (pos : List Int) (ln : Nat) (lost : List Int) : ∀ (n : Nat) (pt : connWPt) (r : Bool × (List Int)), connW_m c q pos ln lost n pt = some r → connW_at n B N c q pos ln lost r pt
  | 0, _, _, h => by cases h
  | n + 1, .l1 x3 x4 x5 x16 x17 o1, r, h => connW_p1 n B N (connW_m c q pos ln lost n) c q pos ln lost (connW_all B N c q pos ln lost n) x3 x4 x5 x16 x17 o1 r h
set_option maxRecDepth 100000 in
set_option maxHeartbeats 4000000 in
theorem connW_ok {n : Nat} (c : ConsD) (q : ProbD) (pos : List Int) (ln : Nat) (lost : List Int) {r : Bool × (List Int)} (h : connW n c q pos ln lost = some r) : ES Tryd.prog GG 47 [.ref 0 0] [some (.cells (consC c ++ probC q ++ [.ints pos, .msl 1 1 0 ln])), some (.ints lost)] (.bool r.1) [some (.cells (consC c ++ probC q ++ [.ints pos, .msl 1 1 0 ln])), some (.ints r.2)] false := by
  have hX : HX Fence.wide Tryd.prog := ⟨FOk.wide, by kernel_rfl⟩
  refine ES.of_trk Tryd.func47 (by kernel_rfl) (by kernel_rfl) (noIterB (by kernel_rfl)) (fun e => by cases e) fun B N => ?_
  have hself := connW_all B N c q pos ln lost n
  unfold connW at h
  generalize connW_m c q pos ln lost n = self at h hself
  unfold connW_l0 at h
  obtain ⟨y1, hy1, h⟩ := bindSome h
  exact TrK.g hX sch_connW 13 [0, 3, 4, 5, 16, 17] [0, 1] [] (.c (ES.emC (nodesW_ok c q pos ln lost hy1) [0, 1] [some (.cells (consC c ++ probC q ++ [.ints pos, .msl 1 1 0 ln])), some (.ints lost)] (by kernel_rfl) (by kernel_rfl)) <| .e) (TrK.enter n (by kernel_rfl) (hself (.l1 y1.1 y1.2.1 y1.2.2.1 ((y1.1.length : Nat) : Int) 0 y1.2.2.2) r h n (Nat.le_refl _))) (by kernel_rfl) (by kernel_rfl)


def sch_loopW : Sch := fun i => match i with
  | _ => .no
inductive loopWPt where
  | l1 (x3 x4 : List Bool) (x20 x21 : Int) (o1 : List Int)
  | l2 (x3 x4 : List Bool) (x8 x20 x21 : Int) (x36 : List Int) (x37 x38 : Int) (o1 : List Int)
  | l3 (x3 x4 : List Bool) (x7 : Nat) (x8 x20 x21 : Int) (x36 : List Int) (x37 x38 : Int) (o1 o2 : List Int)
  | l4 (x3 x4 : List Bool) (x7 : Nat) (x8 x20 x21 : Int) (x64 : Nat) (x65 x66 : Int) (o1 o2 : List Int)
def loopW_l1 (n : Nat) (self : loopWPt → Option (Bool × (List Int))) (c : ConsD) (q : ProbD) (pos : List Int) (ln : Nat) (lost : List Int) (x3 x4 : List Bool) (x20 x21 : Int) (o1 : List Int) : Option (Bool × (List Int)) :=
  bif (decide (x21 < x20)) then
   if (0 : Int) ≤ x21 ∧ x21 < ((x4.length : Nat) : Int) then
    bif (!(x4.getD ((x21).toNat) false)) then
     if R64 (x21 + 1) then
      self (.l1 x3 x4 x20 (x21 + 1) o1)
     else none
    else
     if (0 : Int) ≤ x21 ∧ x21 < ((q.nbrs.length : Nat) : Int) then
      self (.l2 x3 x4 0 x20 x21 (q.nbrs.getD ((x21).toNat) []) (((q.nbrs.getD ((x21).toNat) []).length : Nat) : Int) 0 o1)
     else none
   else none
  else
   some (true, o1)
def loopW_l2 (n : Nat) (self : loopWPt → Option (Bool × (List Int))) (c : ConsD) (q : ProbD) (pos : List Int) (ln : Nat) (lost : List Int) (x3 x4 : List Bool) (x8 x20 x21 : Int) (x36 : List Int) (x37 x38 : Int) (o1 : List Int) : Option (Bool × (List Int)) :=
  bif (decide (x38 < x37)) then
   if ((0 : Int) ≤ x38 ∧ x38 < ((x36.length : Nat) : Int)) ∧ ((0 : Int) ≤ (x36.getD ((x38).toNat) 0) ∧ (x36.getD ((x38).toNat) 0) < ((x3.length : Nat) : Int)) then
    bif (x3.getD ((x36.getD ((x38).toNat) 0).toNat) false) then
     if ((0 = 0 ∧ 1 = ([x36.getD ((x38).toNat) 0] : List Int).length) ∧ 0 < ([x36.getD ((x38).toNat) 0] : List Int).length ∧ ([x36.getD ((x38).toNat) 0] : List Int).length ≤ LIM) ∧ ((0 : Int) ≤ (x36.getD ((x38).toNat) 0) ∧ (x36.getD ((x38).toNat) 0) < ((x4.length : Nat) : Int)) then
      bif (x4.getD ((x36.getD ((x38).toNat) 0).toNat) false) then
       if R64 (x8 + 1) ∧ R64 (x38 + 1) then
        self (.l3 x3 x4 (([x36.getD ((x38).toNat) 0] : List Int).length) (x8 + 1) x20 x21 x36 x37 (x38 + 1) o1 ([x36.getD ((x38).toNat) 0] : List Int))
       else none
      else
       if R64 (x38 + 1) then
        self (.l3 x3 x4 (([x36.getD ((x38).toNat) 0] : List Int).length) x8 x20 x21 x36 x37 (x38 + 1) o1 ([x36.getD ((x38).toNat) 0] : List Int))
       else none
     else none
    else
     if (0 : Int) ≤ (x36.getD ((x38).toNat) 0) ∧ (x36.getD ((x38).toNat) 0) < ((x4.length : Nat) : Int) then
      bif (x4.getD ((x36.getD ((x38).toNat) 0).toNat) false) then
       if R64 (x8 + 1) ∧ R64 (x38 + 1) then
        self (.l2 x3 x4 (x8 + 1) x20 x21 x36 x37 (x38 + 1) o1)
       else none
      else
       if R64 (x38 + 1) then
        self (.l2 x3 x4 x8 x20 x21 x36 x37 (x38 + 1) o1)
       else none
     else none
   else none
  else
   some (false, o1)
def loopW_l3 (n : Nat) (self : loopWPt → Option (Bool × (List Int))) (c : ConsD) (q : ProbD) (pos : List Int) (ln : Nat) (lost : List Int) (x3 x4 : List Bool) (x7 : Nat) (x8 x20 x21 : Int) (x36 : List Int) (x37 x38 : Int) (o1 o2 : List Int) : Option (Bool × (List Int)) :=
  bif (decide (x38 < x37)) then
   if ((0 : Int) ≤ x38 ∧ x38 < ((x36.length : Nat) : Int)) ∧ ((0 : Int) ≤ (x36.getD ((x38).toNat) 0) ∧ (x36.getD ((x38).toNat) 0) < ((x3.length : Nat) : Int)) then
    bif (x3.getD ((x36.getD ((x38).toNat) 0).toNat) false) then
     if ((0 = 0 ∧ 1 = ([x36.getD ((x38).toNat) 0] : List Int).length) ∧ (0 = 0 ∧ x7 = o2.length) ∧ o2.length + ([x36.getD ((x38).toNat) 0] : List Int).length ≤ LIM) ∧ ((0 : Int) ≤ (x36.getD ((x38).toNat) 0) ∧ (x36.getD ((x38).toNat) 0) < ((x4.length : Nat) : Int)) then
      bif (x4.getD ((x36.getD ((x38).toNat) 0).toNat) false) then
       if R64 (x8 + 1) ∧ R64 (x38 + 1) then
        self (.l3 x3 x4 (o2.length + ([x36.getD ((x38).toNat) 0] : List Int).length) (x8 + 1) x20 x21 x36 x37 (x38 + 1) o1 (o2 ++ ([x36.getD ((x38).toNat) 0] : List Int)))
       else none
      else
       if R64 (x38 + 1) then
        self (.l3 x3 x4 (o2.length + ([x36.getD ((x38).toNat) 0] : List Int).length) x8 x20 x21 x36 x37 (x38 + 1) o1 (o2 ++ ([x36.getD ((x38).toNat) 0] : List Int)))
       else none
     else none
    else
     if (0 : Int) ≤ (x36.getD ((x38).toNat) 0) ∧ (x36.getD ((x38).toNat) 0) < ((x4.length : Nat) : Int) then
      bif (x4.getD ((x36.getD ((x38).toNat) 0).toNat) false) then
       if R64 (x8 + 1) ∧ R64 (x38 + 1) then
        self (.l3 x3 x4 x7 (x8 + 1) x20 x21 x36 x37 (x38 + 1) o1 o2)
       else none
      else
       if R64 (x38 + 1) then
        self (.l3 x3 x4 x7 x8 x20 x21 x36 x37 (x38 + 1) o1 o2)
       else none
     else none
   else none
  else
   bif (decide (((x7 : Nat) : Int) < 2)) then
    some (false, o1)
   else
    bif (decide (x8 > 2)) then
     some (false, o1)
    else
     self (.l4 x3 x4 x7 x8 x20 x21 x7 ((x7 : Nat) : Int) 0 o1 o2)
def loopW_l4 (n : Nat) (self : loopWPt → Option (Bool × (List Int))) (c : ConsD) (q : ProbD) (pos : List Int) (ln : Nat) (lost : List Int) (x3 x4 : List Bool) (x7 : Nat) (x8 x20 x21 : Int) (x64 : Nat) (x65 x66 : Int) (o1 o2 : List Int) : Option (Bool × (List Int)) :=
  bif (decide (x66 < x65)) then
   if ((0 : Int) ≤ x66 ∧ x66 < ((x64 : Nat) : Int)) ∧ 0 + ((x66).toNat) < o2.length then
    bif (((x7 : Nat) : Int) == 2) then
     (onlyW n (o2.getD (0 + ((x66).toNat)) 0) c q pos ln o1).bind fun y1 =>
      bif (x8 == 2) then
       if (0 : Int) ≤ (o2.getD (0 + ((x66).toNat)) 0) ∧ (o2.getD (0 + ((x66).toNat)) 0) < ((x4.length : Nat) : Int) then
        bif (!(x4.getD ((o2.getD (0 + ((x66).toNat)) 0).toNat) false)) then
         (loseW n (o2.getD (0 + ((x66).toNat)) 0) c.set c q pos ln y1).bind fun y2 =>
          if R64 (x66 + 1) then
           self (.l4 x3 x4 x7 x8 x20 x21 x64 x65 (x66 + 1) y2 o2)
          else none
        else
         if R64 (x66 + 1) then
          self (.l4 x3 x4 x7 x8 x20 x21 x64 x65 (x66 + 1) y1 o2)
         else none
       else none
      else
       if R64 (x66 + 1) then
        self (.l4 x3 x4 x7 x8 x20 x21 x64 x65 (x66 + 1) y1 o2)
       else none
    else
     bif (x8 == 2) then
      if (0 : Int) ≤ (o2.getD (0 + ((x66).toNat)) 0) ∧ (o2.getD (0 + ((x66).toNat)) 0) < ((x4.length : Nat) : Int) then
       bif (!(x4.getD ((o2.getD (0 + ((x66).toNat)) 0).toNat) false)) then
        (loseW n (o2.getD (0 + ((x66).toNat)) 0) c.set c q pos ln o1).bind fun y1 =>
         if R64 (x66 + 1) then
          self (.l4 x3 x4 x7 x8 x20 x21 x64 x65 (x66 + 1) y1 o2)
         else none
       else
        if R64 (x66 + 1) then
         self (.l4 x3 x4 x7 x8 x20 x21 x64 x65 (x66 + 1) o1 o2)
        else none
      else none
     else
      if R64 (x66 + 1) then
       self (.l4 x3 x4 x7 x8 x20 x21 x64 x65 (x66 + 1) o1 o2)
      else none
   else none
  else
   if R64 (x21 + 1) then
    self (.l1 x3 x4 x20 (x21 + 1) o1)
   else none
def loopW_l0 (n : Nat) (self : loopWPt → Option (Bool × (List Int))) (c : ConsD) (q : ProbD) (pos : List Int) (ln : Nat) (lost : List Int) : Option (Bool × (List Int)) :=
  (nodesW n c q pos ln lost).bind fun y1 =>
   self (.l1 y1.1 y1.2.1 ((y1.2.1.length : Nat) : Int) 0 y1.2.2.2)
def loopW_m (c : ConsD) (q : ProbD) (pos : List Int) (ln : Nat) (lost : List Int) : Nat → loopWPt → Option (Bool × (List Int))
  | 0, _ => none
  | n + 1, .l1 x3 x4 x20 x21 o1 => loopW_l1 n (loopW_m c q pos ln lost n) c q pos ln lost x3 x4 x20 x21 o1
  | n + 1, .l2 x3 x4 x8 x20 x21 x36 x37 x38 o1 => loopW_l2 n (loopW_m c q pos ln lost n) c q pos ln lost x3 x4 x8 x20 x21 x36 x37 x38 o1
  | n + 1, .l3 x3 x4 x7 x8 x20 x21 x36 x37 x38 o1 o2 => loopW_l3 n (loopW_m c q pos ln lost n) c q pos ln lost x3 x4 x7 x8 x20 x21 x36 x37 x38 o1 o2
  | n + 1, .l4 x3 x4 x7 x8 x20 x21 x64 x65 x66 o1 o2 => loopW_l4 n (loopW_m c q pos ln lost n) c q pos ln lost x3 x4 x7 x8 x20 x21 x64 x65 x66 o1 o2
def loopW (n : Nat) (c : ConsD) (q : ProbD) (pos : List Int) (ln : Nat) (lost : List Int) : Option (Bool × (List Int)) := loopW_l0 n (loopW_m c q pos ln lost n) c q pos ln lost
/-- What the points stand for. -/
def loopW_at (n : Nat) (B : Nat) (N : Yard Tryd.prog GG 2) (c : ConsD) (q : ProbD) (pos : List Int) (ln : Nat) (lost : List Int) (r : Bool × (List Int)) : loopWPt → Prop
  | .l1 x3 x4 x20 x21 o1 => ∀ m0 : Nat, n ≤ m0 → TrK Tryd.prog GG Fence.wide (some B) 2 N (Fin Tryd.prog Tryd.f48 2 (.bool r.1) [some (.cells (consC c ++ probC q ++ [.ints pos, .msl 1 1 0 ln])), some (.ints r.2)]) (toN m0 (atNC (bodyC Tryd.f48) 0 [])) ⟨frm 95 [(0, .ref 0 0), (3, .bools x3), (4, .bools x4), (20, .int .i64 x20), (21, .int .i64 x21)], [some (.cells (consC c ++ probC q ++ [.ints pos, .msl 1 1 0 ln])), some (.ints o1)]⟩
  | .l2 x3 x4 x8 x20 x21 x36 x37 x38 o1 => ∀ m0 m1 : Nat, n ≤ m0 → n ≤ m1 → TrK Tryd.prog GG Fence.wide (some B) 2 N (Fin Tryd.prog Tryd.f48 2 (.bool r.1) [some (.cells (consC c ++ probC q ++ [.ints pos, .msl 1 1 0 ln])), some (.ints r.2)]) (toN m1 (atNC (bodyC Tryd.f48) 2 [m0])) ⟨frm 95 [(0, .ref 0 0), (3, .bools x3), (4, .bools x4), (7, .nils), (8, .int .i64 x8), (20, .int .i64 x20), (21, .int .i64 x21), (36, .ints x36), (37, .int .i64 x37), (38, .int .i64 x38)], [some (.cells (consC c ++ probC q ++ [.ints pos, .msl 1 1 0 ln])), some (.ints o1)]⟩
  | .l3 x3 x4 x7 x8 x20 x21 x36 x37 x38 o1 o2 => ∀ m0 m1 : Nat, n ≤ m0 → n ≤ m1 → TrK Tryd.prog GG Fence.wide (some B) 2 N (Fin Tryd.prog Tryd.f48 2 (.bool r.1) [some (.cells (consC c ++ probC q ++ [.ints pos, .msl 1 1 0 ln])), some (.ints r.2)]) (toN m1 (atNC (bodyC Tryd.f48) 2 [m0])) ⟨frm 95 [(0, .ref 0 0), (3, .bools x3), (4, .bools x4), (7, .msl 2 1 0 x7), (8, .int .i64 x8), (20, .int .i64 x20), (21, .int .i64 x21), (36, .ints x36), (37, .int .i64 x37), (38, .int .i64 x38)], [some (.cells (consC c ++ probC q ++ [.ints pos, .msl 1 1 0 ln])), some (.ints o1), some (.ints o2)]⟩
  | .l4 x3 x4 x7 x8 x20 x21 x64 x65 x66 o1 o2 => ∀ m0 m1 : Nat, n ≤ m0 → n ≤ m1 → TrK Tryd.prog GG Fence.wide (some B) 2 N (Fin Tryd.prog Tryd.f48 2 (.bool r.1) [some (.cells (consC c ++ probC q ++ [.ints pos, .msl 1 1 0 ln])), some (.ints r.2)]) (toN m1 (atNC (bodyC Tryd.f48) 4 [m0])) ⟨frm 95 [(0, .ref 0 0), (3, .bools x3), (4, .bools x4), (7, .msl 2 1 0 x7), (8, .int .i64 x8), (20, .int .i64 x20), (21, .int .i64 x21), (64, .msl 2 1 0 x64), (65, .int .i64 x65), (66, .int .i64 x66)], [some (.cells (consC c ++ probC q ++ [.ints pos, .msl 1 1 0 ln])), some (.ints o1), some (.ints o2)]⟩
set_option maxRecDepth 100000 in
set_option maxHeartbeats 4000000 in
theorem loopW_p1 (n B : Nat) (N : Yard Tryd.prog GG 2) (self : loopWPt → Option (Bool × (List Int))) (c : ConsD) (q : ProbD) (pos : List Int) (ln : Nat) (lost : List Int) (hself : ∀ pt r, self pt = some r → loopW_at n B N c q pos ln lost r pt) (x3 x4 : List Bool) (x20 x21 : Int) (o1 : List Int) (r : Bool × (List Int)) (h : loopW_l1 n self c q pos ln lost x3 x4 x20 x21 o1 = some r) : loopW_at (n + 1) B N c q pos ln lost r (.l1 x3 x4 x20 x21 o1) := by
  have hX : HX Fence.wide Tryd.prog := ⟨FOk.wide, by kernel_rfl⟩
  intro m0 hm0
  refine TrK.round hm0 (by kernel_rfl) fun m0 hm0 => ?_
  unfold loopW_l1 at h
  rcases bifSome h with ⟨c0, h⟩ | ⟨c0, h⟩
  · obtain ⟨g0, h⟩ := guardSome h
    rcases bifSome h with ⟨c1, h⟩ | ⟨c1, h⟩
    · obtain ⟨g1, h⟩ := guardSome h
      exact TrK.g hX sch_loopW 20 [0, 3, 4, 20, 21] [0, 1] [] (.o 22 (DLe.bool c0) <| .g g0 <| .o 28 (DLe.bool c1) <| .o 94 (wr64 g1) <| .e) (hself (.l1 x3 x4 x20 (x21 + 1) o1) r h m0 hm0) (by kernel_rfl) (by kernel_rfl)
    · obtain ⟨g1, h⟩ := guardSome h
      exact TrK.g hX sch_loopW 27 [0, 3, 4, 7, 8, 20, 21, 36, 37, 38] [0, 1] [] (.o 22 (DLe.bool c0) <| .g g0 <| .o 28 (DLe.bool c1) <| .g g1 <| .e) (TrK.enter n (by kernel_rfl) (hself (.l2 x3 x4 0 x20 x21 (q.nbrs.getD ((x21).toNat) []) (((q.nbrs.getD ((x21).toNat) []).length : Nat) : Int) 0 o1) r h m0 n hm0 (Nat.le_refl _))) (by kernel_rfl) (by kernel_rfl)
  · cases h
    exact TrK.e hX sch_loopW 12 [2] [0, 1] [] (.o 22 (DLe.bool c0) <| .e) [] .e (by kernel_rfl)
set_option maxRecDepth 100000 in
set_option maxHeartbeats 4000000 in
theorem loopW_p2 (n B : Nat) (N : Yard Tryd.prog GG 2) (self : loopWPt → Option (Bool × (List Int))) (c : ConsD) (q : ProbD) (pos : List Int) (ln : Nat) (lost : List Int) (hself : ∀ pt r, self pt = some r → loopW_at n B N c q pos ln lost r pt) (x3 x4 : List Bool) (x8 x20 x21 : Int) (x36 : List Int) (x37 x38 : Int) (o1 : List Int) (r : Bool × (List Int)) (h : loopW_l2 n self c q pos ln lost x3 x4 x8 x20 x21 x36 x37 x38 o1 = some r) : loopW_at (n + 1) B N c q pos ln lost r (.l2 x3 x4 x8 x20 x21 x36 x37 x38 o1) := by
  have hX : HX Fence.wide Tryd.prog := ⟨FOk.wide, by kernel_rfl⟩
  intro m0 m1 hm0 hm1
  have hm0 := Nat.le_of_succ_le hm0
  refine TrK.round hm1 (by kernel_rfl) fun m1 hm1 => ?_
  unfold loopW_l2 at h
  rcases bifSome h with ⟨c0, h⟩ | ⟨c0, h⟩
  · obtain ⟨⟨g0, g1⟩, h⟩ := guardSome h
    rcases bifSome h with ⟨c1, h⟩ | ⟨c1, h⟩
    · obtain ⟨⟨g2, g3⟩, h⟩ := guardSome h
      rcases bifSome h with ⟨c2, h⟩ | ⟨c2, h⟩
      · obtain ⟨⟨g4, g5⟩, h⟩ := guardSome h
        exact TrK.g hX sch_loopW 25 [0, 3, 4, 7, 8, 20, 21, 36, 37, 38] [0, 1, 3] [] (.o 39 (DLe.bool c0) <| .g g0 <| .g g1 <| .o 45 (DLe.bool c1) <| .g g2 <| .g g3 <| .o 53 (DLe.bool c2) <| .o 55 (wr64 g4) <| .o 56 (wr64 g5) <| .e) (hself (.l3 x3 x4 (([x36.getD ((x38).toNat) 0] : List Int).length) (x8 + 1) x20 x21 x36 x37 (x38 + 1) o1 ([x36.getD ((x38).toNat) 0] : List Int)) r h m0 m1 hm0 hm1) (by kernel_rfl) (by kernel_rfl)
      · obtain ⟨g4, h⟩ := guardSome h
        exact TrK.g hX sch_loopW 25 [0, 3, 4, 7, 8, 20, 21, 36, 37, 38] [0, 1, 3] [] (.o 39 (DLe.bool c0) <| .g g0 <| .g g1 <| .o 45 (DLe.bool c1) <| .g g2 <| .g g3 <| .o 53 (DLe.bool c2) <| .o 56 (wr64 g4) <| .e) (hself (.l3 x3 x4 (([x36.getD ((x38).toNat) 0] : List Int).length) x8 x20 x21 x36 x37 (x38 + 1) o1 ([x36.getD ((x38).toNat) 0] : List Int)) r h m0 m1 hm0 hm1) (by kernel_rfl) (by kernel_rfl)
    · obtain ⟨g2, h⟩ := guardSome h
      rcases bifSome h with ⟨c2, h⟩ | ⟨c2, h⟩
      · obtain ⟨⟨g3, g4⟩, h⟩ := guardSome h
        exact TrK.g hX sch_loopW 25 [0, 3, 4, 7, 8, 20, 21, 36, 37, 38] [0, 1] [] (.o 39 (DLe.bool c0) <| .g g0 <| .g g1 <| .o 45 (DLe.bool c1) <| .g g2 <| .o 53 (DLe.bool c2) <| .o 55 (wr64 g3) <| .o 56 (wr64 g4) <| .e) (hself (.l2 x3 x4 (x8 + 1) x20 x21 x36 x37 (x38 + 1) o1) r h m0 m1 hm0 hm1) (by kernel_rfl) (by kernel_rfl)
      · obtain ⟨g3, h⟩ := guardSome h
        exact TrK.g hX sch_loopW 25 [0, 3, 4, 7, 8, 20, 21, 36, 37, 38] [0, 1] [] (.o 39 (DLe.bool c0) <| .g g0 <| .g g1 <| .o 45 (DLe.bool c1) <| .g g2 <| .o 53 (DLe.bool c2) <| .o 56 (wr64 g3) <| .e) (hself (.l2 x3 x4 x8 x20 x21 x36 x37 (x38 + 1) o1) r h m0 m1 hm0 hm1) (by kernel_rfl) (by kernel_rfl)
  · cases h
    exact TrK.e hX sch_loopW 16 [2] [0, 1] [] (.o 39 (DLe.bool c0) <| .e) [] .e (by kernel_rfl)
set_option maxRecDepth 100000 in
set_option maxHeartbeats 4000000 in
theorem loopW_p3 (n B : Nat) (N : Yard Tryd.prog GG 2) (self : loopWPt → Option (Bool × (List Int))) (c : ConsD) (q : ProbD) (pos : List Int) (ln : Nat) (lost : List Int) (hself : ∀ pt r, self pt = some r → loopW_at n B N c q pos ln lost r pt) (x3 x4 : List Bool) (x7 : Nat) (x8 x20 x21 : Int) (x36 : List Int) (x37 x38 : Int) (o1 o2 : List Int) (r : Bool × (List Int)) (h : loopW_l3 n self c q pos ln lost x3 x4 x7 x8 x20 x21 x36 x37 x38 o1 o2 = some r) : loopW_at (n + 1) B N c q pos ln lost r (.l3 x3 x4 x7 x8 x20 x21 x36 x37 x38 o1 o2) := by
  have hX : HX Fence.wide Tryd.prog := ⟨FOk.wide, by kernel_rfl⟩
  intro m0 m1 hm0 hm1
  have hm0 := Nat.le_of_succ_le hm0
  refine TrK.round hm1 (by kernel_rfl) fun m1 hm1 => ?_
  unfold loopW_l3 at h
  rcases bifSome h with ⟨c0, h⟩ | ⟨c0, h⟩
  · obtain ⟨⟨g0, g1⟩, h⟩ := guardSome h
    rcases bifSome h with ⟨c1, h⟩ | ⟨c1, h⟩
    · obtain ⟨⟨g2, g3⟩, h⟩ := guardSome h
      rcases bifSome h with ⟨c2, h⟩ | ⟨c2, h⟩
      · obtain ⟨⟨g4, g5⟩, h⟩ := guardSome h
        exact TrK.g hX sch_loopW 25 [0, 3, 4, 7, 8, 20, 21, 36, 37, 38] [0, 1, 4] [] (.o 39 (DLe.bool c0) <| .g g0 <| .g g1 <| .o 45 (DLe.bool c1) <| .g g2 <| .g g3 <| .o 53 (DLe.bool c2) <| .o 55 (wr64 g4) <| .o 56 (wr64 g5) <| .e) (hself (.l3 x3 x4 (o2.length + ([x36.getD ((x38).toNat) 0] : List Int).length) (x8 + 1) x20 x21 x36 x37 (x38 + 1) o1 (o2 ++ ([x36.getD ((x38).toNat) 0] : List Int))) r h m0 m1 hm0 hm1) (by kernel_rfl) (by kernel_rfl)
      · obtain ⟨g4, h⟩ := guardSome h
        exact TrK.g hX sch_loopW 25 [0, 3, 4, 7, 8, 20, 21, 36, 37, 38] [0, 1, 4] [] (.o 39 (DLe.bool c0) <| .g g0 <| .g g1 <| .o 45 (DLe.bool c1) <| .g g2 <| .g g3 <| .o 53 (DLe.bool c2) <| .o 56 (wr64 g4) <| .e) (hself (.l3 x3 x4 (o2.length + ([x36.getD ((x38).toNat) 0] : List Int).length) x8 x20 x21 x36 x37 (x38 + 1) o1 (o2 ++ ([x36.getD ((x38).toNat) 0] : List Int))) r h m0 m1 hm0 hm1) (by kernel_rfl) (by kernel_rfl)
    · obtain ⟨g2, h⟩ := guardSome h
      rcases bifSome h with ⟨c2, h⟩ | ⟨c2, h⟩
      · obtain ⟨⟨g3, g4⟩, h⟩ := guardSome h
        exact TrK.g hX sch_loopW 25 [0, 3, 4, 7, 8, 20, 21, 36, 37, 38] [0, 1, 2] [] (.o 39 (DLe.bool c0) <| .g g0 <| .g g1 <| .o 45 (DLe.bool c1) <| .g g2 <| .o 53 (DLe.bool c2) <| .o 55 (wr64 g3) <| .o 56 (wr64 g4) <| .e) (hself (.l3 x3 x4 x7 (x8 + 1) x20 x21 x36 x37 (x38 + 1) o1 o2) r h m0 m1 hm0 hm1) (by kernel_rfl) (by kernel_rfl)
      · obtain ⟨g3, h⟩ := guardSome h
        exact TrK.g hX sch_loopW 25 [0, 3, 4, 7, 8, 20, 21, 36, 37, 38] [0, 1, 2] [] (.o 39 (DLe.bool c0) <| .g g0 <| .g g1 <| .o 45 (DLe.bool c1) <| .g g2 <| .o 53 (DLe.bool c2) <| .o 56 (wr64 g3) <| .e) (hself (.l3 x3 x4 x7 x8 x20 x21 x36 x37 (x38 + 1) o1 o2) r h m0 m1 hm0 hm1) (by kernel_rfl) (by kernel_rfl)
  · rcases bifSome h with ⟨c1, h⟩ | ⟨c1, h⟩
    · cases h
      exact TrK.e hX sch_loopW 16 [2] [0, 1] [] (.o 39 (DLe.bool c0) <| .o 59 (DLe.bool c1) <| .e) [] .e (by kernel_rfl)
    · rcases bifSome h with ⟨c2, h⟩ | ⟨c2, h⟩
      · cases h
        exact TrK.e hX sch_loopW 16 [2] [0, 1] [] (.o 39 (DLe.bool c0) <| .o 59 (DLe.bool c1) <| .o 62 (DLe.bool c2) <| .e) [] .e (by kernel_rfl)
      · exact TrK.g hX sch_loopW 18 [0, 3, 4, 7, 8, 20, 21, 64, 65, 66] [0, 1, 2] [] (.o 39 (DLe.bool c0) <| .o 59 (DLe.bool c1) <| .o 62 (DLe.bool c2) <| .e) (TrK.enter n (by kernel_rfl) (hself (.l4 x3 x4 x7 x8 x20 x21 x7 ((x7 : Nat) : Int) 0 o1 o2) r h m0 n hm0 (Nat.le_refl _))) (by kernel_rfl) (by kernel_rfl)
set_option maxRecDepth 100000 in
set_option maxHeartbeats 4000000 in
theorem loopW_p4 (n B : Nat) (N : Yard Tryd.prog GG 2) (self : loopWPt → Option (Bool × (List Int))) (c : ConsD) (q : ProbD) (pos : List Int) (ln : Nat) (lost : List Int) (hself : ∀ pt r, self pt = some r → loopW_at n B N c q pos ln lost r pt) (x3 x4 : List Bool) (x7 : Nat) (x8 x20 x21 : Int) (x64 : Nat) (x65 x66 : Int) (o1 o2 : List Int) (r : Bool × (List Int)) (h : loopW_l4 n self c q pos ln lost x3 x4 x7 x8 x20 x21 x64 x65 x66 o1 o2 = some r) : loopW_at (n + 1) B N c q pos ln lost r (.l4 x3 x4 x7 x8 x20 x21 x64 x65 x66 o1 o2) := by
  have hX : HX Fence.wide Tryd.prog := ⟨FOk.wide, by kernel_rfl⟩
  intro m0 m1 hm0 hm1
  have hm0 := Nat.le_of_succ_le hm0
  refine TrK.round hm1 (by kernel_rfl) fun m1 hm1 => ?_
  unfold loopW_l4 at h
  rcases bifSome h with ⟨c0, h⟩ | ⟨c0, h⟩
  · obtain ⟨⟨g0, g1⟩, h⟩ := guardSome h
    rcases bifSome h with ⟨c1, h⟩ | ⟨c1, h⟩
    · obtain ⟨y1, hy1, h⟩ := bindSome h
      rcases bifSome h with ⟨c2, h⟩ | ⟨c2, h⟩
      · obtain ⟨g2, h⟩ := guardSome h
        rcases bifSome h with ⟨c3, h⟩ | ⟨c3, h⟩
        · obtain ⟨y2, hy2, h⟩ := bindSome h
          obtain ⟨g3, h⟩ := guardSome h
          exact TrK.g hX sch_loopW 25 [0, 3, 4, 7, 8, 20, 21, 64, 65, 66] [0, 1, 2] [] (.o 67 (DLe.bool c0) <| .g g0 <| .g g1 <| .o 72 (DLe.bool c1) <| .c (ES.emC (onlyW_ok (o2.getD (0 + ((x66).toNat)) 0) c q pos ln o1 hy1) [0, 1] [some (.cells (consC c ++ probC q ++ [.ints pos, .msl 1 1 0 ln])), some (.ints o1), some (.ints o2)] (by kernel_rfl) (by kernel_rfl)) <| .o 77 (DLe.bool c2) <| .g g2 <| .o 83 (DLe.bool c3) <| .c (ES.emC (loseW_ok (o2.getD (0 + ((x66).toNat)) 0) c.set c q pos ln y1 hy2) [0, 1] [some (.cells (consC c ++ probC q ++ [.ints pos, .msl 1 1 0 ln])), some (.ints y1), some (.ints o2)] (by kernel_rfl) (by kernel_rfl)) <| .o 93 (wr64 g3) <| .e) (hself (.l4 x3 x4 x7 x8 x20 x21 x64 x65 (x66 + 1) y2 o2) r h m0 m1 hm0 hm1) (by kernel_rfl) (by kernel_rfl)
        · obtain ⟨g3, h⟩ := guardSome h
          exact TrK.g hX sch_loopW 25 [0, 3, 4, 7, 8, 20, 21, 64, 65, 66] [0, 1, 2] [] (.o 67 (DLe.bool c0) <| .g g0 <| .g g1 <| .o 72 (DLe.bool c1) <| .c (ES.emC (onlyW_ok (o2.getD (0 + ((x66).toNat)) 0) c q pos ln o1 hy1) [0, 1] [some (.cells (consC c ++ probC q ++ [.ints pos, .msl 1 1 0 ln])), some (.ints o1), some (.ints o2)] (by kernel_rfl) (by kernel_rfl)) <| .o 77 (DLe.bool c2) <| .g g2 <| .o 83 (DLe.bool c3) <| .o 93 (wr64 g3) <| .e) (hself (.l4 x3 x4 x7 x8 x20 x21 x64 x65 (x66 + 1) y1 o2) r h m0 m1 hm0 hm1) (by kernel_rfl) (by kernel_rfl)
      · obtain ⟨g2, h⟩ := guardSome h
        exact TrK.g hX sch_loopW 25 [0, 3, 4, 7, 8, 20, 21, 64, 65, 66] [0, 1, 2] [] (.o 67 (DLe.bool c0) <| .g g0 <| .g g1 <| .o 72 (DLe.bool c1) <| .c (ES.emC (onlyW_ok (o2.getD (0 + ((x66).toNat)) 0) c q pos ln o1 hy1) [0, 1] [some (.cells (consC c ++ probC q ++ [.ints pos, .msl 1 1 0 ln])), some (.ints o1), some (.ints o2)] (by kernel_rfl) (by kernel_rfl)) <| .o 77 (DLe.bool c2) <| .o 93 (wr64 g2) <| .e) (hself (.l4 x3 x4 x7 x8 x20 x21 x64 x65 (x66 + 1) y1 o2) r h m0 m1 hm0 hm1) (by kernel_rfl) (by kernel_rfl)
    · rcases bifSome h with ⟨c2, h⟩ | ⟨c2, h⟩
      · obtain ⟨g2, h⟩ := guardSome h
        rcases bifSome h with ⟨c3, h⟩ | ⟨c3, h⟩
        · obtain ⟨y1, hy1, h⟩ := bindSome h
          obtain ⟨g3, h⟩ := guardSome h
          exact TrK.g hX sch_loopW 25 [0, 3, 4, 7, 8, 20, 21, 64, 65, 66] [0, 1, 2] [] (.o 67 (DLe.bool c0) <| .g g0 <| .g g1 <| .o 72 (DLe.bool c1) <| .o 77 (DLe.bool c2) <| .g g2 <| .o 83 (DLe.bool c3) <| .c (ES.emC (loseW_ok (o2.getD (0 + ((x66).toNat)) 0) c.set c q pos ln o1 hy1) [0, 1] [some (.cells (consC c ++ probC q ++ [.ints pos, .msl 1 1 0 ln])), some (.ints o1), some (.ints o2)] (by kernel_rfl) (by kernel_rfl)) <| .o 93 (wr64 g3) <| .e) (hself (.l4 x3 x4 x7 x8 x20 x21 x64 x65 (x66 + 1) y1 o2) r h m0 m1 hm0 hm1) (by kernel_rfl) (by kernel_rfl)
        · obtain ⟨g3, h⟩ := guardSome h
          exact TrK.g hX sch_loopW 25 [0, 3, 4, 7, 8, 20, 21, 64, 65, 66] [0, 1, 2] [] (.o 67 (DLe.bool c0) <| .g g0 <| .g g1 <| .o 72 (DLe.bool c1) <| .o 77 (DLe.bool c2) <| .g g2 <| .o 83 (DLe.bool c3) <| .o 93 (wr64 g3) <| .e) (hself (.l4 x3 x4 x7 x8 x20 x21 x64 x65 (x66 + 1) o1 o2) r h m0 m1 hm0 hm1) (by kernel_rfl) (by kernel_rfl)
      · obtain ⟨g2, h⟩ := guardSome h
        exact TrK.g hX sch_loopW 25 [0, 3, 4, 7, 8, 20, 21, 64, 65, 66] [0, 1, 2] [] (.o 67 (DLe.bool c0) <| .g g0 <| .g g1 <| .o 72 (DLe.bool c1) <| .o 77 (DLe.bool c2) <| .o 93 (wr64 g2) <| .e) (hself (.l4 x3 x4 x7 x8 x20 x21 x64 x65 (x66 + 1) o1 o2) r h m0 m1 hm0 hm1) (by kernel_rfl) (by kernel_rfl)
  · obtain ⟨g0, h⟩ := guardSome h
    exact TrK.g hX sch_loopW 12 [0, 3, 4, 20, 21] [0, 1] [] (.o 67 (DLe.bool c0) <| .o 94 (wr64 g0) <| .e) (hself (.l1 x3 x4 x20 (x21 + 1) o1) r h m0 hm0) (by kernel_rfl) (by kernel_rfl)
theorem loopW_all (B : Nat) (N : Yard Tryd.prog GG 2) (c : ConsD) (q : ProbD) (pos : List Int) (ln : Nat) (lost : List Int) : ∀ (n : Nat) (pt : loopWPt) (r : Bool × (List Int)), loopW_m c q pos ln lost n pt = some r → loopW_at n B N c q pos ln lost r pt
  | 0, _, _, h => by cases h
  | n + 1, .l1 x3 x4 x20 x21 o1, r, h => loopW_p1 n B N (loopW_m c q pos ln lost n) c q pos ln lost (loopW_all B N c q pos ln lost n) x3 x4 x20 x21 o1 r h
  | n + 1, .l2 x3 x4 x8 x20 x21 x36 x37 x38 o1, r, h => loopW_p2 n B N (loopW_m c q pos ln lost n) c q pos ln lost (loopW_all B N c q pos ln lost n) x3 x4 x8 x20 x21 x36 x37 x38 o1 r h
  | n + 1, .l3 x3 x4 x7 x8 x20 x21 x36 x37 x38 o1 o2, r, h => loopW_p3 n B N (loopW_m c q pos ln lost n) c q pos ln lost (loopW_all B N c q pos ln lost n) x3 x4 x7 x8 x20 x21 x36 x37 x38 o1 o2 r h
  | n + 1, .l4 x3 x4 x7 x8 x20 x21 x64 x65 x66 o1 o2, r, h => loopW_p4 n B N (loopW_m c q pos ln lost n) c q pos ln lost (loopW_all B N c q pos ln lost n) x3 x4 x7 x8 x20 x21 x64 x65 x66 o1 o2 r h
set_option maxRecDepth 100000 in
set_option maxHeartbeats 4000000 in
theorem loopW_ok {n : Nat} (c : ConsD) (q : ProbD) (pos : List Int) (ln : Nat) (lost : List Int) {r : Bool × (List Int)} (h : loopW n c q pos ln lost = some r) : ES Tryd.prog GG 48 [.ref 0 0] [some (.cells (consC c ++ probC q ++ [.ints pos, .msl 1 1 0 ln])), some (.ints lost)] (.bool r.1) [some (.cells (consC c ++ probC q ++ [.ints pos, .msl 1 1 0 ln])), some (.ints r.2)] false := by
  have hX : HX Fence.wide Tryd.prog := ⟨FOk.wide, by kernel_rfl⟩
  refine ES.of_trk Tryd.func48 (by kernel_rfl) (by kernel_rfl) (noIterB (by kernel_rfl)) (fun e => by cases e) fun B N => ?_
  have hself := loopW_all B N c q pos ln lost n
  unfold loopW at h
  generalize loopW_m c q pos ln lost n = self at h hself
  unfold loopW_l0 at h
  obtain ⟨y1, hy1, h⟩ := bindSome h
  exact TrK.g hX sch_loopW 13 [0, 3, 4, 20, 21] [0, 1] [] (.c (ES.emC (nodesW_ok c q pos ln lost hy1) [0, 1] [some (.cells (consC c ++ probC q ++ [.ints pos, .msl 1 1 0 ln])), some (.ints lost)] (by kernel_rfl) (by kernel_rfl)) <| .e) (TrK.enter n (by kernel_rfl) (hself (.l1 y1.1 y1.2.1 ((y1.2.1.length : Nat) : Int) 0 y1.2.2.2) r h n (Nat.le_refl _))) (by kernel_rfl) (by kernel_rfl)


end Go.Proofs.YtekkngkphejfcaaDoor
