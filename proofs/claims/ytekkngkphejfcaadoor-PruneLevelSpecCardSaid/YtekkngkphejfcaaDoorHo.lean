/- Functions read off the code: the law of levels. -/
import Derived.Test.YtekkngkphejfcaaDoorHn
namespace Go.Proofs.YtekkngkphejfcaaDoor
open Go.RowKit

def sch_sane : Sch := fun i => match i with
  | _ => .no
def hp_sane_0 (o0_0 o0_1 : Int) (o0_2 : List Int) (o0_3 : List (List Int)) (o0_4 : List ConsD) : DH := [some (.cells [.int .i64 o0_0, .int .i64 o0_1, .ints o0_2, .sl 1 o0_3.length (rowE intsC o0_3), .sl 9 o0_4.length (rowE consC o0_4)]), some (.ints ([1, 3, 7] : List Int)), some (.ints ([1, 2, 6] : List Int))]
def hp_sane_1 (o0_0 o0_1 : Int) (o0_2 : List Int) (o0_3 : List (List Int)) (o0_4 : List ConsD) : DH := [some (.cells [.int .i64 o0_0, .int .i64 o0_1, .ints o0_2, .sl 1 o0_3.length (rowE intsC o0_3), .sl 9 o0_4.length (rowE consC o0_4)]), some (.ints ([1, 3, 7] : List Int)), some (.ints ([1, 2, 6] : List Int)), some (.ints ([2, 3, 3] : List Int)), some (.ints ([2, 1, 1] : List Int))]
def hp_sane_2 : DH := [some (.ints ([1, 3, 3] : List Int)), some (.ints ([1, 2, 2] : List Int)), some (.ints ([2, 2, 3] : List Int)), some (.ints ([0, 0, 0] : List Int))]
def hp_sane_3 : DH := [some (.ints ([7, 7] : List Int)), some (.ints ([3, 3] : List Int)), some (.ints ([7, 7] : List Int)), some (.ints ([3, 6] : List Int))]
def hp_sane_4 : DH := [none, some (.ints ([3, 3, 3] : List Int)), some (.ints ([3, 2, 3] : List Int)), some (.ints ([7, 7] : List Int)), some (.ints ([5, 5] : List Int))]
def hp_sane_5 : DH := [some (.ints ([1, 3] : List Int)), some (.ints ([1, 2] : List Int)), some (.ints ([2, 3, 2] : List Int)), some (.ints ([2, 2, 2] : List Int))]
def hp_sane_6 : DH := [some (.ints ([3, 2, 3] : List Int)), some (.ints ([2, 2, 2] : List Int)), some (.ints ([2, 2, 2] : List Int)), some (.ints ([0, 0, 0] : List Int))]
inductive sanePt where
  | l1 (o0_0 o0_1 : Int) (o0_2 : List Int) (o0_3 : List (List Int)) (o0_4 : List ConsD)
  | l2 (x10 : Bool)
  | l3 (x10 x11 : Bool)
  | l4 (x10 x11 x12 : Bool)
  | l5 (x10 x11 x12 x13 : Bool)
  | l6 (x10 x11 x12 x13 x14 : Bool)
  | l7 (x10 x11 x12 x13 x14 x15 : Bool)
def sane_l1 (n : Nat) (self : sanePt → Option Bool) (o0_0 o0_1 : Int) (o0_2 : List Int) (o0_3 : List (List Int)) (o0_4 : List ConsD) : Option Bool :=
  (becomes n (⟨o0_0, o0_1, o0_2, o0_3, o0_4⟩ : ProbD) ([1, 3, 7] : List Int) ([1, 2, 6] : List Int)).bind fun y1 =>
   bif y1 then
    (lineQ n 3 2 2 2 0 1 1 ([] : List Int) 0 0).bind fun y2 =>
     (becomes n y2 ([2, 3, 3] : List Int) ([2, 1, 1] : List Int)).bind fun y3 =>
      self (.l2 y3)
   else
    self (.l2 false)
def sane_l2 (n : Nat) (self : sanePt → Option Bool) (x10 : Bool) : Option Bool :=
  (lineQ n 3 2 2 2 0 2 3 ([] : List Int) 0 0).bind fun y1 =>
   (becomes n y1 ([1, 3, 3] : List Int) ([1, 2, 2] : List Int)).bind fun y2 =>
    bif y2 then
     (lineQ n 3 2 2 2 0 0 1 ([] : List Int) 0 0).bind fun y3 =>
      (becomes n y3 ([2, 2, 3] : List Int) ([0, 0, 0] : List Int)).bind fun y4 =>
       self (.l3 x10 y4)
    else
     self (.l3 x10 false)
def sane_l3 (n : Nat) (self : sanePt → Option Bool) (x10 x11 : Bool) : Option Bool :=
  (lineQ n 2 3 3 0 0 0 3 ([] : List Int) 0 0).bind fun y1 =>
   (becomes n y1 ([7, 7] : List Int) ([3, 3] : List Int)).bind fun y2 =>
    bif y2 then
     (lineQ n 2 3 4 0 0 0 0 ([] : List Int) 0 0).bind fun y3 =>
      (becomes n y3 ([7, 7] : List Int) ([3, 6] : List Int)).bind fun y4 =>
       self (.l4 x10 x11 y4)
    else
     self (.l4 x10 x11 false)
def sane_l4 (n : Nat) (self : sanePt → Option Bool) (x10 x11 x12 : Bool) : Option Bool :=
  (lineQ n 3 2 5 2 0 0 0 ([2] : List Int) 0 0).bind fun y1 =>
   (becomes n y1 ([3, 3, 3] : List Int) ([3, 2, 3] : List Int)).bind fun y2 =>
    bif y2 then
     (lineQ n 2 3 6 0 0 2 0 ([] : List Int) 0 0).bind fun y3 =>
      (becomes n y3 ([7, 7] : List Int) ([5, 5] : List Int)).bind fun y4 =>
       self (.l5 x10 x11 x12 y4)
    else
     self (.l5 x10 x11 x12 false)
def sane_l5 (n : Nat) (self : sanePt → Option Bool) (x10 x11 x12 x13 : Bool) : Option Bool :=
  (lineQ n 2 2 7 1 1 0 0 ([] : List Int) 0 0).bind fun y1 =>
   (becomes n y1 ([1, 3] : List Int) ([1, 2] : List Int)).bind fun y2 =>
    bif y2 then
     (lineQ n 3 2 8 2 0 0 0 ([] : List Int) 0 0).bind fun y3 =>
      (becomes n y3 ([2, 3, 2] : List Int) ([2, 2, 2] : List Int)).bind fun y4 =>
       self (.l6 x10 x11 x12 x13 y4)
    else
     self (.l6 x10 x11 x12 x13 false)
def sane_l6 (n : Nat) (self : sanePt → Option Bool) (x10 x11 x12 x13 x14 : Bool) : Option Bool :=
  (lineQ n 3 2 9 2 0 0 0 ([] : List Int) 0 0).bind fun y1 =>
   (becomes n y1 ([3, 2, 3] : List Int) ([2, 2, 2] : List Int)).bind fun y2 =>
    bif y2 then
     (lineQ n 3 2 9 2 0 0 0 ([] : List Int) 0 0).bind fun y3 =>
      (becomes n y3 ([2, 2, 2] : List Int) ([0, 0, 0] : List Int)).bind fun y4 =>
       self (.l7 x10 x11 x12 x13 x14 y4)
    else
     self (.l7 x10 x11 x12 x13 x14 false)
def sane_l7 (n : Nat) (self : sanePt → Option Bool) (x10 x11 x12 x13 x14 x15 : Bool) : Option Bool :=
  bif x10 then
   bif x11 then
    bif x12 then
     bif x13 then
      bif x14 then
       some x15
      else
       some false
     else
      some false
    else
     some false
   else
    some false
  else
   some false
def sane_l0 (n : Nat) (self : sanePt → Option Bool) : Option Bool :=
  (lineQ n 3 3 1 0 0 0 0 ([] : List Int) 0 0).bind fun y1 =>
   (lostP n y1 0 ([1, 3, 7] : List Int)).bind fun y2 =>
    (lineQ n 2 3 3 0 0 0 3 ([] : List Int) 0 0).bind fun y3 =>
     (levelP n y3 0).bind fun y4 =>
      (pruneP n y1 1 ([1, 3, 7] : List Int)).bind fun y5 =>
       (levelP n (⟨0, 0, ([] : List Int), ([] : List (List Int)), ([] : List ConsD)⟩ : ProbD) 0).bind fun y6 =>
        bif (y2.2 != 0) then
         some false
        else
         bif (y4.2 != 0) then
          some false
         else
          bif (y4.1 != 2) then
           some false
          else
           bif (y5.2 != 260) then
            some false
           else
            bif (y6.2 != 191) then
             some false
            else
             (samePairs n y2.1 ([(1, 0), (2, 0)] : List (Int × Int))).bind fun y7 =>
              bif (!y7) then
               some false
              else
               self (.l1 y1.cells y1.symbols y1.values y1.nbrs y1.cons)
def sane_m : Nat → sanePt → Option Bool
  | 0, _ => none
  | n + 1, .l1 o0_0 o0_1 o0_2 o0_3 o0_4 => sane_l1 n (sane_m n) o0_0 o0_1 o0_2 o0_3 o0_4
  | n + 1, .l2 x10 => sane_l2 n (sane_m n) x10
  | n + 1, .l3 x10 x11 => sane_l3 n (sane_m n) x10 x11
  | n + 1, .l4 x10 x11 x12 => sane_l4 n (sane_m n) x10 x11 x12
  | n + 1, .l5 x10 x11 x12 x13 => sane_l5 n (sane_m n) x10 x11 x12 x13
  | n + 1, .l6 x10 x11 x12 x13 x14 => sane_l6 n (sane_m n) x10 x11 x12 x13 x14
  | n + 1, .l7 x10 x11 x12 x13 x14 x15 => sane_l7 n (sane_m n) x10 x11 x12 x13 x14 x15
def sane (n : Nat) : Option Bool := sane_l0 n (sane_m n)
/-- What the points stand for. -/
def sane_at (n : Nat) (B : Nat) (N : Yard Tryd.prog GG 0) (r : Bool) : sanePt → Prop
  | .l1 o0_0 o0_1 o0_2 o0_3 o0_4 => TrK Tryd.prog GG Fence.wide (some B) 0 N (Fin Tryd.prog Tryd.f7 0 (.bool r) []) (atGC (bodyC Tryd.f7) 8 []) ⟨frm 155 [(1, .ref 0 0)], [some (.cells [.int .i64 o0_0, .int .i64 o0_1, .ints o0_2, .sl 1 o0_3.length (rowE intsC o0_3), .sl 9 o0_4.length (rowE consC o0_4)])]⟩
  | .l2 x10 => TrK Tryd.prog GG Fence.wide (some B) 0 N (Fin Tryd.prog Tryd.f7 0 (.bool r) []) (atGC (bodyC Tryd.f7) 9 []) ⟨frm 155 [(10, .bool x10)], []⟩
  | .l3 x10 x11 => TrK Tryd.prog GG Fence.wide (some B) 0 N (Fin Tryd.prog Tryd.f7 0 (.bool r) []) (atGC (bodyC Tryd.f7) 10 []) ⟨frm 155 [(10, .bool x10), (11, .bool x11)], []⟩
  | .l4 x10 x11 x12 => TrK Tryd.prog GG Fence.wide (some B) 0 N (Fin Tryd.prog Tryd.f7 0 (.bool r) []) (atGC (bodyC Tryd.f7) 11 []) ⟨frm 155 [(10, .bool x10), (11, .bool x11), (12, .bool x12)], []⟩
  | .l5 x10 x11 x12 x13 => TrK Tryd.prog GG Fence.wide (some B) 0 N (Fin Tryd.prog Tryd.f7 0 (.bool r) []) (atGC (bodyC Tryd.f7) 12 []) ⟨frm 155 [(10, .bool x10), (11, .bool x11), (12, .bool x12), (13, .bool x13)], []⟩
  | .l6 x10 x11 x12 x13 x14 => TrK Tryd.prog GG Fence.wide (some B) 0 N (Fin Tryd.prog Tryd.f7 0 (.bool r) []) (atGC (bodyC Tryd.f7) 13 []) ⟨frm 155 [(10, .bool x10), (11, .bool x11), (12, .bool x12), (13, .bool x13), (14, .bool x14)], []⟩
  | .l7 x10 x11 x12 x13 x14 x15 => TrK Tryd.prog GG Fence.wide (some B) 0 N (Fin Tryd.prog Tryd.f7 0 (.bool r) []) (atGC (bodyC Tryd.f7) 14 []) ⟨frm 155 [(10, .bool x10), (11, .bool x11), (12, .bool x12), (13, .bool x13), (14, .bool x14), (15, .bool x15)], []⟩
set_option maxRecDepth 100000 in
set_option maxHeartbeats 4000000 in
theorem sane_p1 (n B : Nat) (N : Yard Tryd.prog GG 0) (self : sanePt → Option Bool) (hself : ∀ pt r, self pt = some r → sane_at n B N r pt) (o0_0 o0_1 : Int) (o0_2 : List Int) (o0_3 : List (List Int)) (o0_4 : List ConsD) (r : Bool) (h : sane_l1 n self o0_0 o0_1 o0_2 o0_3 o0_4 = some r) : sane_at (n + 1) B N r (.l1 o0_0 o0_1 o0_2 o0_3 o0_4) := by
  have hX : HX Fence.wide Tryd.prog := ⟨FOk.wide, by kernel_rfl⟩
  show TrK _ _ _ _ _ _ _ _ _
  unfold sane_l1 at h
  obtain ⟨y1, hy1, h⟩ := bindSome h
  rcases bifSome h with ⟨c0, h⟩ | ⟨c0, h⟩
  · obtain ⟨y2, hy2, h⟩ := bindSome h
    obtain ⟨y3, hy3, h⟩ := bindSome h
    exact TrK.g hX (stopAt 14 (stopAt 13 (stopAt 12 (stopAt 11 (stopAt 10 (stopAt 9 sch_sane)))))) 7 [10] [] [] (.c (ES.snapB (ds := [.agg 5 (L1 [.int .i64 o0_0, .int .i64 o0_1, .ints o0_2, .sl 1 o0_3.length (rowE intsC o0_3), .sl 9 o0_4.length (rowE consC o0_4)]), .msl 1 1 0 3, .msl 2 1 0 3]) (becomes_ok (⟨o0_0, o0_1, o0_2, o0_3, o0_4⟩ : ProbD) ([1, 3, 7] : List Int) ([1, 2, 6] : List Int) hy1) (hp_sane_0 o0_0 o0_1 o0_2 o0_3 o0_4) ⟨Snap.plain (by kernel_rfl), Snap.ints rfl (by decide : 3 = ([1, 3, 7] : List Int).length), Snap.ints rfl (by decide : 3 = ([1, 2, 6] : List Int).length), trivial⟩ (by kernel_rfl)) <| .o 70 (DLe.bool c0) <| .c (ES.frameB (ES.argsLe (ds := [.int .i64 3, .int .i64 2, .agg 9 (L1 [.int .i64 2, .nils, .int .i64 2, .int .i64 0, .int .i64 1, .int .i64 1, .nils, .int .i64 0, .int .i64 0])]) (lineQ_ok 3 2 2 2 0 1 1 ([] : List Int) 0 0 hy2) ⟨dle_refl, dle_refl, (DLe.aggL (l := [.int .i64 2, .nils, .int .i64 2, .int .i64 0, .int .i64 1, .int .i64 1, .nils, .int .i64 0, .int .i64 0]) (l' := [.int .i64 2, .nils, .int .i64 2, .int .i64 0, .int .i64 1, .int .i64 1, .ints ([] : List Int), .int .i64 0, .int .i64 0]) rfl ⟨(DLe.refl _), (DLe.refl _), (DLe.refl _), (DLe.refl _), (DLe.refl _), (DLe.refl _), DLe.ints_nil, (DLe.refl _), (DLe.refl _), trivial⟩), trivial⟩) (hp_sane_0 o0_0 o0_1 o0_2 o0_3 o0_4) (by kernel_rfl)) <| .c (ES.snapB (ds := [.agg 5 (L1 (probC y2)), .msl 3 1 0 3, .msl 4 1 0 3]) (becomes_ok y2 ([2, 3, 3] : List Int) ([2, 1, 1] : List Int) hy3) (hp_sane_1 o0_0 o0_1 o0_2 o0_3 o0_4) ⟨Snap.plain (by kernel_rfl), Snap.ints rfl (by decide : 3 = ([2, 3, 3] : List Int).length), Snap.ints rfl (by decide : 3 = ([2, 1, 1] : List Int).length), trivial⟩ (by kernel_rfl)) <| .e) (hself (.l2 y3) r h) (by kernel_rfl) (by kernel_rfl)
  · exact TrK.g hX (stopAt 14 (stopAt 13 (stopAt 12 (stopAt 11 (stopAt 10 (stopAt 9 sch_sane)))))) 7 [10] [] [] (.c (ES.snapB (ds := [.agg 5 (L1 [.int .i64 o0_0, .int .i64 o0_1, .ints o0_2, .sl 1 o0_3.length (rowE intsC o0_3), .sl 9 o0_4.length (rowE consC o0_4)]), .msl 1 1 0 3, .msl 2 1 0 3]) (becomes_ok (⟨o0_0, o0_1, o0_2, o0_3, o0_4⟩ : ProbD) ([1, 3, 7] : List Int) ([1, 2, 6] : List Int) hy1) (hp_sane_0 o0_0 o0_1 o0_2 o0_3 o0_4) ⟨Snap.plain (by kernel_rfl), Snap.ints rfl (by decide : 3 = ([1, 3, 7] : List Int).length), Snap.ints rfl (by decide : 3 = ([1, 2, 6] : List Int).length), trivial⟩ (by kernel_rfl)) <| .o 70 (DLe.bool c0) <| .e) (hself (.l2 false) r h) (by kernel_rfl) (by kernel_rfl)
set_option maxRecDepth 100000 in
set_option maxHeartbeats 4000000 in
theorem sane_p2 (n B : Nat) (N : Yard Tryd.prog GG 0) (self : sanePt → Option Bool) (hself : ∀ pt r, self pt = some r → sane_at n B N r pt) (x10 : Bool) (r : Bool) (h : sane_l2 n self x10 = some r) : sane_at (n + 1) B N r (.l2 x10) := by
  have hX : HX Fence.wide Tryd.prog := ⟨FOk.wide, by kernel_rfl⟩
  show TrK _ _ _ _ _ _ _ _ _
  unfold sane_l2 at h
  obtain ⟨y1, hy1, h⟩ := bindSome h
  obtain ⟨y2, hy2, h⟩ := bindSome h
  rcases bifSome h with ⟨c0, h⟩ | ⟨c0, h⟩
  · obtain ⟨y3, hy3, h⟩ := bindSome h
    obtain ⟨y4, hy4, h⟩ := bindSome h
    exact TrK.g hX (stopAt 14 (stopAt 13 (stopAt 12 (stopAt 11 (stopAt 10 (stopAt 8 sch_sane)))))) 7 [10, 11] [] [] (.c (ES.frameB (ES.argsLe (ds := [.int .i64 3, .int .i64 2, .agg 9 (L1 [.int .i64 2, .nils, .int .i64 2, .int .i64 0, .int .i64 2, .int .i64 3, .nils, .int .i64 0, .int .i64 0])]) (lineQ_ok 3 2 2 2 0 2 3 ([] : List Int) 0 0 hy1) ⟨dle_refl, dle_refl, (DLe.aggL (l := [.int .i64 2, .nils, .int .i64 2, .int .i64 0, .int .i64 2, .int .i64 3, .nils, .int .i64 0, .int .i64 0]) (l' := [.int .i64 2, .nils, .int .i64 2, .int .i64 0, .int .i64 2, .int .i64 3, .ints ([] : List Int), .int .i64 0, .int .i64 0]) rfl ⟨(DLe.refl _), (DLe.refl _), (DLe.refl _), (DLe.refl _), (DLe.refl _), (DLe.refl _), DLe.ints_nil, (DLe.refl _), (DLe.refl _), trivial⟩), trivial⟩) [] (by kernel_rfl)) <| .c (ES.snapB (ds := [.agg 5 (L1 (probC y1)), .msl 0 1 0 3, .msl 1 1 0 3]) (becomes_ok y1 ([1, 3, 3] : List Int) ([1, 2, 2] : List Int) hy2) [some (.ints ([1, 3, 3] : List Int)), some (.ints ([1, 2, 2] : List Int))] ⟨Snap.plain (by kernel_rfl), Snap.ints rfl (by decide : 3 = ([1, 3, 3] : List Int).length), Snap.ints rfl (by decide : 3 = ([1, 2, 2] : List Int).length), trivial⟩ (by kernel_rfl)) <| .o 82 (DLe.bool c0) <| .c (ES.frameB (ES.argsLe (ds := [.int .i64 3, .int .i64 2, .agg 9 (L1 [.int .i64 2, .nils, .int .i64 2, .int .i64 0, .int .i64 0, .int .i64 1, .nils, .int .i64 0, .int .i64 0])]) (lineQ_ok 3 2 2 2 0 0 1 ([] : List Int) 0 0 hy3) ⟨dle_refl, dle_refl, (DLe.aggL (l := [.int .i64 2, .nils, .int .i64 2, .int .i64 0, .int .i64 0, .int .i64 1, .nils, .int .i64 0, .int .i64 0]) (l' := [.int .i64 2, .nils, .int .i64 2, .int .i64 0, .int .i64 0, .int .i64 1, .ints ([] : List Int), .int .i64 0, .int .i64 0]) rfl ⟨(DLe.refl _), (DLe.refl _), (DLe.refl _), (DLe.refl _), (DLe.refl _), (DLe.refl _), DLe.ints_nil, (DLe.refl _), (DLe.refl _), trivial⟩), trivial⟩) [some (.ints ([1, 3, 3] : List Int)), some (.ints ([1, 2, 2] : List Int))] (by kernel_rfl)) <| .c (ES.snapB (ds := [.agg 5 (L1 (probC y3)), .msl 2 1 0 3, .msl 3 1 0 3]) (becomes_ok y3 ([2, 2, 3] : List Int) ([0, 0, 0] : List Int) hy4) hp_sane_2 ⟨Snap.plain (by kernel_rfl), Snap.ints rfl (by decide : 3 = ([2, 2, 3] : List Int).length), Snap.ints rfl (by decide : 3 = ([0, 0, 0] : List Int).length), trivial⟩ (by kernel_rfl)) <| .e) (hself (.l3 x10 y4) r h) (by kernel_rfl) (by kernel_rfl)
  · exact TrK.g hX (stopAt 14 (stopAt 13 (stopAt 12 (stopAt 11 (stopAt 10 (stopAt 8 sch_sane)))))) 7 [10, 11] [] [] (.c (ES.frameB (ES.argsLe (ds := [.int .i64 3, .int .i64 2, .agg 9 (L1 [.int .i64 2, .nils, .int .i64 2, .int .i64 0, .int .i64 2, .int .i64 3, .nils, .int .i64 0, .int .i64 0])]) (lineQ_ok 3 2 2 2 0 2 3 ([] : List Int) 0 0 hy1) ⟨dle_refl, dle_refl, (DLe.aggL (l := [.int .i64 2, .nils, .int .i64 2, .int .i64 0, .int .i64 2, .int .i64 3, .nils, .int .i64 0, .int .i64 0]) (l' := [.int .i64 2, .nils, .int .i64 2, .int .i64 0, .int .i64 2, .int .i64 3, .ints ([] : List Int), .int .i64 0, .int .i64 0]) rfl ⟨(DLe.refl _), (DLe.refl _), (DLe.refl _), (DLe.refl _), (DLe.refl _), (DLe.refl _), DLe.ints_nil, (DLe.refl _), (DLe.refl _), trivial⟩), trivial⟩) [] (by kernel_rfl)) <| .c (ES.snapB (ds := [.agg 5 (L1 (probC y1)), .msl 0 1 0 3, .msl 1 1 0 3]) (becomes_ok y1 ([1, 3, 3] : List Int) ([1, 2, 2] : List Int) hy2) [some (.ints ([1, 3, 3] : List Int)), some (.ints ([1, 2, 2] : List Int))] ⟨Snap.plain (by kernel_rfl), Snap.ints rfl (by decide : 3 = ([1, 3, 3] : List Int).length), Snap.ints rfl (by decide : 3 = ([1, 2, 2] : List Int).length), trivial⟩ (by kernel_rfl)) <| .o 82 (DLe.bool c0) <| .e) (hself (.l3 x10 false) r h) (by kernel_rfl) (by kernel_rfl)
set_option maxRecDepth 100000 in
set_option maxHeartbeats 4000000 in
theorem sane_p3 (n B : Nat) (N : Yard Tryd.prog GG 0) (self : sanePt → Option Bool) (hself : ∀ pt r, self pt = some r → sane_at n B N r pt) (x10 x11 : Bool) (r : Bool) (h : sane_l3 n self x10 x11 = some r) : sane_at (n + 1) B N r (.l3 x10 x11) := by
  have hX : HX Fence.wide Tryd.prog := ⟨FOk.wide, by kernel_rfl⟩
  show TrK _ _ _ _ _ _ _ _ _
  unfold sane_l3 at h
  obtain ⟨y1, hy1, h⟩ := bindSome h
  obtain ⟨y2, hy2, h⟩ := bindSome h
  rcases bifSome h with ⟨c0, h⟩ | ⟨c0, h⟩
  · obtain ⟨y3, hy3, h⟩ := bindSome h
    obtain ⟨y4, hy4, h⟩ := bindSome h
    exact TrK.g hX (stopAt 14 (stopAt 13 (stopAt 12 (stopAt 11 (stopAt 9 (stopAt 8 sch_sane)))))) 7 [10, 11, 12] [] [] (.c (ES.frameB (ES.argsLe (ds := [.int .i64 2, .int .i64 3, .agg 9 (L1 [.int .i64 3, .nils, .int .i64 0, .int .i64 0, .int .i64 0, .int .i64 3, .nils, .int .i64 0, .int .i64 0])]) (lineQ_ok 2 3 3 0 0 0 3 ([] : List Int) 0 0 hy1) ⟨dle_refl, dle_refl, (DLe.aggL (l := [.int .i64 3, .nils, .int .i64 0, .int .i64 0, .int .i64 0, .int .i64 3, .nils, .int .i64 0, .int .i64 0]) (l' := [.int .i64 3, .nils, .int .i64 0, .int .i64 0, .int .i64 0, .int .i64 3, .ints ([] : List Int), .int .i64 0, .int .i64 0]) rfl ⟨(DLe.refl _), (DLe.refl _), (DLe.refl _), (DLe.refl _), (DLe.refl _), (DLe.refl _), DLe.ints_nil, (DLe.refl _), (DLe.refl _), trivial⟩), trivial⟩) [] (by kernel_rfl)) <| .c (ES.snapB (ds := [.agg 5 (L1 (probC y1)), .msl 0 1 0 2, .msl 1 1 0 2]) (becomes_ok y1 ([7, 7] : List Int) ([3, 3] : List Int) hy2) [some (.ints ([7, 7] : List Int)), some (.ints ([3, 3] : List Int))] ⟨Snap.plain (by kernel_rfl), Snap.ints rfl (by decide : 2 = ([7, 7] : List Int).length), Snap.ints rfl (by decide : 2 = ([3, 3] : List Int).length), trivial⟩ (by kernel_rfl)) <| .o 94 (DLe.bool c0) <| .c (ES.frameB (ES.argsLe (ds := [.int .i64 2, .int .i64 3, .agg 9 (L1 [.int .i64 4, .nils, .int .i64 0, .int .i64 0, .int .i64 0, .int .i64 0, .nils, .int .i64 0, .int .i64 0])]) (lineQ_ok 2 3 4 0 0 0 0 ([] : List Int) 0 0 hy3) ⟨dle_refl, dle_refl, (DLe.aggL (l := [.int .i64 4, .nils, .int .i64 0, .int .i64 0, .int .i64 0, .int .i64 0, .nils, .int .i64 0, .int .i64 0]) (l' := [.int .i64 4, .nils, .int .i64 0, .int .i64 0, .int .i64 0, .int .i64 0, .ints ([] : List Int), .int .i64 0, .int .i64 0]) rfl ⟨(DLe.refl _), (DLe.refl _), (DLe.refl _), (DLe.refl _), (DLe.refl _), (DLe.refl _), DLe.ints_nil, (DLe.refl _), (DLe.refl _), trivial⟩), trivial⟩) [some (.ints ([7, 7] : List Int)), some (.ints ([3, 3] : List Int))] (by kernel_rfl)) <| .c (ES.snapB (ds := [.agg 5 (L1 (probC y3)), .msl 2 1 0 2, .msl 3 1 0 2]) (becomes_ok y3 ([7, 7] : List Int) ([3, 6] : List Int) hy4) hp_sane_3 ⟨Snap.plain (by kernel_rfl), Snap.ints rfl (by decide : 2 = ([7, 7] : List Int).length), Snap.ints rfl (by decide : 2 = ([3, 6] : List Int).length), trivial⟩ (by kernel_rfl)) <| .e) (hself (.l4 x10 x11 y4) r h) (by kernel_rfl) (by kernel_rfl)
  · exact TrK.g hX (stopAt 14 (stopAt 13 (stopAt 12 (stopAt 11 (stopAt 9 (stopAt 8 sch_sane)))))) 7 [10, 11, 12] [] [] (.c (ES.frameB (ES.argsLe (ds := [.int .i64 2, .int .i64 3, .agg 9 (L1 [.int .i64 3, .nils, .int .i64 0, .int .i64 0, .int .i64 0, .int .i64 3, .nils, .int .i64 0, .int .i64 0])]) (lineQ_ok 2 3 3 0 0 0 3 ([] : List Int) 0 0 hy1) ⟨dle_refl, dle_refl, (DLe.aggL (l := [.int .i64 3, .nils, .int .i64 0, .int .i64 0, .int .i64 0, .int .i64 3, .nils, .int .i64 0, .int .i64 0]) (l' := [.int .i64 3, .nils, .int .i64 0, .int .i64 0, .int .i64 0, .int .i64 3, .ints ([] : List Int), .int .i64 0, .int .i64 0]) rfl ⟨(DLe.refl _), (DLe.refl _), (DLe.refl _), (DLe.refl _), (DLe.refl _), (DLe.refl _), DLe.ints_nil, (DLe.refl _), (DLe.refl _), trivial⟩), trivial⟩) [] (by kernel_rfl)) <| .c (ES.snapB (ds := [.agg 5 (L1 (probC y1)), .msl 0 1 0 2, .msl 1 1 0 2]) (becomes_ok y1 ([7, 7] : List Int) ([3, 3] : List Int) hy2) [some (.ints ([7, 7] : List Int)), some (.ints ([3, 3] : List Int))] ⟨Snap.plain (by kernel_rfl), Snap.ints rfl (by decide : 2 = ([7, 7] : List Int).length), Snap.ints rfl (by decide : 2 = ([3, 3] : List Int).length), trivial⟩ (by kernel_rfl)) <| .o 94 (DLe.bool c0) <| .e) (hself (.l4 x10 x11 false) r h) (by kernel_rfl) (by kernel_rfl)
set_option maxRecDepth 100000 in
set_option maxHeartbeats 4000000 in
theorem sane_p4 (n B : Nat) (N : Yard Tryd.prog GG 0) (self : sanePt → Option Bool) (hself : ∀ pt r, self pt = some r → sane_at n B N r pt) (x10 x11 x12 : Bool) (r : Bool) (h : sane_l4 n self x10 x11 x12 = some r) : sane_at (n + 1) B N r (.l4 x10 x11 x12) := by
  have hX : HX Fence.wide Tryd.prog := ⟨FOk.wide, by kernel_rfl⟩
  show TrK _ _ _ _ _ _ _ _ _
  unfold sane_l4 at h
  obtain ⟨y1, hy1, h⟩ := bindSome h
  obtain ⟨y2, hy2, h⟩ := bindSome h
  rcases bifSome h with ⟨c0, h⟩ | ⟨c0, h⟩
  · obtain ⟨y3, hy3, h⟩ := bindSome h
    obtain ⟨y4, hy4, h⟩ := bindSome h
    exact TrK.g hX (stopAt 14 (stopAt 13 (stopAt 12 (stopAt 10 (stopAt 9 (stopAt 8 sch_sane)))))) 7 [10, 11, 12, 13] [] [] (.z 102 0 <| .g (by decide : 1 = ([2] : List Int).length) <| .c (ES.frameB (lineQ_ok 3 2 5 2 0 0 0 ([2] : List Int) 0 0 hy1) [none] (by kernel_rfl)) <| .c (ES.snapB (ds := [.agg 5 (L1 (probC y1)), .msl 1 1 0 3, .msl 2 1 0 3]) (becomes_ok y1 ([3, 3, 3] : List Int) ([3, 2, 3] : List Int) hy2) [none, some (.ints ([3, 3, 3] : List Int)), some (.ints ([3, 2, 3] : List Int))] ⟨Snap.plain (by kernel_rfl), Snap.ints rfl (by decide : 3 = ([3, 3, 3] : List Int).length), Snap.ints rfl (by decide : 3 = ([3, 2, 3] : List Int).length), trivial⟩ (by kernel_rfl)) <| .o 107 (DLe.bool c0) <| .c (ES.frameB (ES.argsLe (ds := [.int .i64 2, .int .i64 3, .agg 9 (L1 [.int .i64 6, .nils, .int .i64 0, .int .i64 0, .int .i64 2, .int .i64 0, .nils, .int .i64 0, .int .i64 0])]) (lineQ_ok 2 3 6 0 0 2 0 ([] : List Int) 0 0 hy3) ⟨dle_refl, dle_refl, (DLe.aggL (l := [.int .i64 6, .nils, .int .i64 0, .int .i64 0, .int .i64 2, .int .i64 0, .nils, .int .i64 0, .int .i64 0]) (l' := [.int .i64 6, .nils, .int .i64 0, .int .i64 0, .int .i64 2, .int .i64 0, .ints ([] : List Int), .int .i64 0, .int .i64 0]) rfl ⟨(DLe.refl _), (DLe.refl _), (DLe.refl _), (DLe.refl _), (DLe.refl _), (DLe.refl _), DLe.ints_nil, (DLe.refl _), (DLe.refl _), trivial⟩), trivial⟩) [none, some (.ints ([3, 3, 3] : List Int)), some (.ints ([3, 2, 3] : List Int))] (by kernel_rfl)) <| .c (ES.snapB (ds := [.agg 5 (L1 (probC y3)), .msl 3 1 0 2, .msl 4 1 0 2]) (becomes_ok y3 ([7, 7] : List Int) ([5, 5] : List Int) hy4) hp_sane_4 ⟨Snap.plain (by kernel_rfl), Snap.ints rfl (by decide : 2 = ([7, 7] : List Int).length), Snap.ints rfl (by decide : 2 = ([5, 5] : List Int).length), trivial⟩ (by kernel_rfl)) <| .e) (hself (.l5 x10 x11 x12 y4) r h) (by kernel_rfl) (by kernel_rfl)
  · exact TrK.g hX (stopAt 14 (stopAt 13 (stopAt 12 (stopAt 10 (stopAt 9 (stopAt 8 sch_sane)))))) 7 [10, 11, 12, 13] [] [] (.z 102 0 <| .g (by decide : 1 = ([2] : List Int).length) <| .c (ES.frameB (lineQ_ok 3 2 5 2 0 0 0 ([2] : List Int) 0 0 hy1) [none] (by kernel_rfl)) <| .c (ES.snapB (ds := [.agg 5 (L1 (probC y1)), .msl 1 1 0 3, .msl 2 1 0 3]) (becomes_ok y1 ([3, 3, 3] : List Int) ([3, 2, 3] : List Int) hy2) [none, some (.ints ([3, 3, 3] : List Int)), some (.ints ([3, 2, 3] : List Int))] ⟨Snap.plain (by kernel_rfl), Snap.ints rfl (by decide : 3 = ([3, 3, 3] : List Int).length), Snap.ints rfl (by decide : 3 = ([3, 2, 3] : List Int).length), trivial⟩ (by kernel_rfl)) <| .o 107 (DLe.bool c0) <| .e) (hself (.l5 x10 x11 x12 false) r h) (by kernel_rfl) (by kernel_rfl)
set_option maxRecDepth 100000 in
set_option maxHeartbeats 4000000 in
theorem sane_p5 (n B : Nat) (N : Yard Tryd.prog GG 0) (self : sanePt → Option Bool) (hself : ∀ pt r, self pt = some r → sane_at n B N r pt) (x10 x11 x12 x13 : Bool) (r : Bool) (h : sane_l5 n self x10 x11 x12 x13 = some r) : sane_at (n + 1) B N r (.l5 x10 x11 x12 x13) := by
  have hX : HX Fence.wide Tryd.prog := ⟨FOk.wide, by kernel_rfl⟩
  show TrK _ _ _ _ _ _ _ _ _
  unfold sane_l5 at h
  obtain ⟨y1, hy1, h⟩ := bindSome h
  obtain ⟨y2, hy2, h⟩ := bindSome h
  rcases bifSome h with ⟨c0, h⟩ | ⟨c0, h⟩
  · obtain ⟨y3, hy3, h⟩ := bindSome h
    obtain ⟨y4, hy4, h⟩ := bindSome h
    exact TrK.g hX (stopAt 14 (stopAt 13 (stopAt 11 (stopAt 10 (stopAt 9 (stopAt 8 sch_sane)))))) 7 [10, 11, 12, 13, 14] [] [] (.c (ES.frameB (ES.argsLe (ds := [.int .i64 2, .int .i64 2, .agg 9 (L1 [.int .i64 7, .nils, .int .i64 1, .int .i64 1, .int .i64 0, .int .i64 0, .nils, .int .i64 0, .int .i64 0])]) (lineQ_ok 2 2 7 1 1 0 0 ([] : List Int) 0 0 hy1) ⟨dle_refl, dle_refl, (DLe.aggL (l := [.int .i64 7, .nils, .int .i64 1, .int .i64 1, .int .i64 0, .int .i64 0, .nils, .int .i64 0, .int .i64 0]) (l' := [.int .i64 7, .nils, .int .i64 1, .int .i64 1, .int .i64 0, .int .i64 0, .ints ([] : List Int), .int .i64 0, .int .i64 0]) rfl ⟨(DLe.refl _), (DLe.refl _), (DLe.refl _), (DLe.refl _), (DLe.refl _), (DLe.refl _), DLe.ints_nil, (DLe.refl _), (DLe.refl _), trivial⟩), trivial⟩) [] (by kernel_rfl)) <| .c (ES.snapB (ds := [.agg 5 (L1 (probC y1)), .msl 0 1 0 2, .msl 1 1 0 2]) (becomes_ok y1 ([1, 3] : List Int) ([1, 2] : List Int) hy2) [some (.ints ([1, 3] : List Int)), some (.ints ([1, 2] : List Int))] ⟨Snap.plain (by kernel_rfl), Snap.ints rfl (by decide : 2 = ([1, 3] : List Int).length), Snap.ints rfl (by decide : 2 = ([1, 2] : List Int).length), trivial⟩ (by kernel_rfl)) <| .o 119 (DLe.bool c0) <| .c (ES.frameB (ES.argsLe (ds := [.int .i64 3, .int .i64 2, .agg 9 (L1 [.int .i64 8, .nils, .int .i64 2, .int .i64 0, .int .i64 0, .int .i64 0, .nils, .int .i64 0, .int .i64 0])]) (lineQ_ok 3 2 8 2 0 0 0 ([] : List Int) 0 0 hy3) ⟨dle_refl, dle_refl, (DLe.aggL (l := [.int .i64 8, .nils, .int .i64 2, .int .i64 0, .int .i64 0, .int .i64 0, .nils, .int .i64 0, .int .i64 0]) (l' := [.int .i64 8, .nils, .int .i64 2, .int .i64 0, .int .i64 0, .int .i64 0, .ints ([] : List Int), .int .i64 0, .int .i64 0]) rfl ⟨(DLe.refl _), (DLe.refl _), (DLe.refl _), (DLe.refl _), (DLe.refl _), (DLe.refl _), DLe.ints_nil, (DLe.refl _), (DLe.refl _), trivial⟩), trivial⟩) [some (.ints ([1, 3] : List Int)), some (.ints ([1, 2] : List Int))] (by kernel_rfl)) <| .c (ES.snapB (ds := [.agg 5 (L1 (probC y3)), .msl 2 1 0 3, .msl 3 1 0 3]) (becomes_ok y3 ([2, 3, 2] : List Int) ([2, 2, 2] : List Int) hy4) hp_sane_5 ⟨Snap.plain (by kernel_rfl), Snap.ints rfl (by decide : 3 = ([2, 3, 2] : List Int).length), Snap.ints rfl (by decide : 3 = ([2, 2, 2] : List Int).length), trivial⟩ (by kernel_rfl)) <| .e) (hself (.l6 x10 x11 x12 x13 y4) r h) (by kernel_rfl) (by kernel_rfl)
  · exact TrK.g hX (stopAt 14 (stopAt 13 (stopAt 11 (stopAt 10 (stopAt 9 (stopAt 8 sch_sane)))))) 7 [10, 11, 12, 13, 14] [] [] (.c (ES.frameB (ES.argsLe (ds := [.int .i64 2, .int .i64 2, .agg 9 (L1 [.int .i64 7, .nils, .int .i64 1, .int .i64 1, .int .i64 0, .int .i64 0, .nils, .int .i64 0, .int .i64 0])]) (lineQ_ok 2 2 7 1 1 0 0 ([] : List Int) 0 0 hy1) ⟨dle_refl, dle_refl, (DLe.aggL (l := [.int .i64 7, .nils, .int .i64 1, .int .i64 1, .int .i64 0, .int .i64 0, .nils, .int .i64 0, .int .i64 0]) (l' := [.int .i64 7, .nils, .int .i64 1, .int .i64 1, .int .i64 0, .int .i64 0, .ints ([] : List Int), .int .i64 0, .int .i64 0]) rfl ⟨(DLe.refl _), (DLe.refl _), (DLe.refl _), (DLe.refl _), (DLe.refl _), (DLe.refl _), DLe.ints_nil, (DLe.refl _), (DLe.refl _), trivial⟩), trivial⟩) [] (by kernel_rfl)) <| .c (ES.snapB (ds := [.agg 5 (L1 (probC y1)), .msl 0 1 0 2, .msl 1 1 0 2]) (becomes_ok y1 ([1, 3] : List Int) ([1, 2] : List Int) hy2) [some (.ints ([1, 3] : List Int)), some (.ints ([1, 2] : List Int))] ⟨Snap.plain (by kernel_rfl), Snap.ints rfl (by decide : 2 = ([1, 3] : List Int).length), Snap.ints rfl (by decide : 2 = ([1, 2] : List Int).length), trivial⟩ (by kernel_rfl)) <| .o 119 (DLe.bool c0) <| .e) (hself (.l6 x10 x11 x12 x13 false) r h) (by kernel_rfl) (by kernel_rfl)
set_option maxRecDepth 100000 in
set_option maxHeartbeats 4000000 in
theorem sane_p6 (n B : Nat) (N : Yard Tryd.prog GG 0) (self : sanePt → Option Bool) (hself : ∀ pt r, self pt = some r → sane_at n B N r pt) (x10 x11 x12 x13 x14 : Bool) (r : Bool) (h : sane_l6 n self x10 x11 x12 x13 x14 = some r) : sane_at (n + 1) B N r (.l6 x10 x11 x12 x13 x14) := by
  have hX : HX Fence.wide Tryd.prog := ⟨FOk.wide, by kernel_rfl⟩
  show TrK _ _ _ _ _ _ _ _ _
  unfold sane_l6 at h
  obtain ⟨y1, hy1, h⟩ := bindSome h
  obtain ⟨y2, hy2, h⟩ := bindSome h
  rcases bifSome h with ⟨c0, h⟩ | ⟨c0, h⟩
  · obtain ⟨y3, hy3, h⟩ := bindSome h
    obtain ⟨y4, hy4, h⟩ := bindSome h
    exact TrK.g hX (stopAt 14 (stopAt 12 (stopAt 11 (stopAt 10 (stopAt 9 (stopAt 8 sch_sane)))))) 7 [10, 11, 12, 13, 14, 15] [] [] (.c (ES.frameB (ES.argsLe (ds := [.int .i64 3, .int .i64 2, .agg 9 (L1 [.int .i64 9, .nils, .int .i64 2, .int .i64 0, .int .i64 0, .int .i64 0, .nils, .int .i64 0, .int .i64 0])]) (lineQ_ok 3 2 9 2 0 0 0 ([] : List Int) 0 0 hy1) ⟨dle_refl, dle_refl, (DLe.aggL (l := [.int .i64 9, .nils, .int .i64 2, .int .i64 0, .int .i64 0, .int .i64 0, .nils, .int .i64 0, .int .i64 0]) (l' := [.int .i64 9, .nils, .int .i64 2, .int .i64 0, .int .i64 0, .int .i64 0, .ints ([] : List Int), .int .i64 0, .int .i64 0]) rfl ⟨(DLe.refl _), (DLe.refl _), (DLe.refl _), (DLe.refl _), (DLe.refl _), (DLe.refl _), DLe.ints_nil, (DLe.refl _), (DLe.refl _), trivial⟩), trivial⟩) [] (by kernel_rfl)) <| .c (ES.snapB (ds := [.agg 5 (L1 (probC y1)), .msl 0 1 0 3, .msl 1 1 0 3]) (becomes_ok y1 ([3, 2, 3] : List Int) ([2, 2, 2] : List Int) hy2) [some (.ints ([3, 2, 3] : List Int)), some (.ints ([2, 2, 2] : List Int))] ⟨Snap.plain (by kernel_rfl), Snap.ints rfl (by decide : 3 = ([3, 2, 3] : List Int).length), Snap.ints rfl (by decide : 3 = ([2, 2, 2] : List Int).length), trivial⟩ (by kernel_rfl)) <| .o 131 (DLe.bool c0) <| .c (ES.frameB (ES.argsLe (ds := [.int .i64 3, .int .i64 2, .agg 9 (L1 [.int .i64 9, .nils, .int .i64 2, .int .i64 0, .int .i64 0, .int .i64 0, .nils, .int .i64 0, .int .i64 0])]) (lineQ_ok 3 2 9 2 0 0 0 ([] : List Int) 0 0 hy3) ⟨dle_refl, dle_refl, (DLe.aggL (l := [.int .i64 9, .nils, .int .i64 2, .int .i64 0, .int .i64 0, .int .i64 0, .nils, .int .i64 0, .int .i64 0]) (l' := [.int .i64 9, .nils, .int .i64 2, .int .i64 0, .int .i64 0, .int .i64 0, .ints ([] : List Int), .int .i64 0, .int .i64 0]) rfl ⟨(DLe.refl _), (DLe.refl _), (DLe.refl _), (DLe.refl _), (DLe.refl _), (DLe.refl _), DLe.ints_nil, (DLe.refl _), (DLe.refl _), trivial⟩), trivial⟩) [some (.ints ([3, 2, 3] : List Int)), some (.ints ([2, 2, 2] : List Int))] (by kernel_rfl)) <| .c (ES.snapB (ds := [.agg 5 (L1 (probC y3)), .msl 2 1 0 3, .msl 3 1 0 3]) (becomes_ok y3 ([2, 2, 2] : List Int) ([0, 0, 0] : List Int) hy4) hp_sane_6 ⟨Snap.plain (by kernel_rfl), Snap.ints rfl (by decide : 3 = ([2, 2, 2] : List Int).length), Snap.ints rfl (by decide : 3 = ([0, 0, 0] : List Int).length), trivial⟩ (by kernel_rfl)) <| .e) (hself (.l7 x10 x11 x12 x13 x14 y4) r h) (by kernel_rfl) (by kernel_rfl)
  · exact TrK.g hX (stopAt 14 (stopAt 12 (stopAt 11 (stopAt 10 (stopAt 9 (stopAt 8 sch_sane)))))) 7 [10, 11, 12, 13, 14, 15] [] [] (.c (ES.frameB (ES.argsLe (ds := [.int .i64 3, .int .i64 2, .agg 9 (L1 [.int .i64 9, .nils, .int .i64 2, .int .i64 0, .int .i64 0, .int .i64 0, .nils, .int .i64 0, .int .i64 0])]) (lineQ_ok 3 2 9 2 0 0 0 ([] : List Int) 0 0 hy1) ⟨dle_refl, dle_refl, (DLe.aggL (l := [.int .i64 9, .nils, .int .i64 2, .int .i64 0, .int .i64 0, .int .i64 0, .nils, .int .i64 0, .int .i64 0]) (l' := [.int .i64 9, .nils, .int .i64 2, .int .i64 0, .int .i64 0, .int .i64 0, .ints ([] : List Int), .int .i64 0, .int .i64 0]) rfl ⟨(DLe.refl _), (DLe.refl _), (DLe.refl _), (DLe.refl _), (DLe.refl _), (DLe.refl _), DLe.ints_nil, (DLe.refl _), (DLe.refl _), trivial⟩), trivial⟩) [] (by kernel_rfl)) <| .c (ES.snapB (ds := [.agg 5 (L1 (probC y1)), .msl 0 1 0 3, .msl 1 1 0 3]) (becomes_ok y1 ([3, 2, 3] : List Int) ([2, 2, 2] : List Int) hy2) [some (.ints ([3, 2, 3] : List Int)), some (.ints ([2, 2, 2] : List Int))] ⟨Snap.plain (by kernel_rfl), Snap.ints rfl (by decide : 3 = ([3, 2, 3] : List Int).length), Snap.ints rfl (by decide : 3 = ([2, 2, 2] : List Int).length), trivial⟩ (by kernel_rfl)) <| .o 131 (DLe.bool c0) <| .e) (hself (.l7 x10 x11 x12 x13 x14 false) r h) (by kernel_rfl) (by kernel_rfl)
set_option maxRecDepth 100000 in
set_option maxHeartbeats 4000000 in
theorem sane_p7 (n B : Nat) (N : Yard Tryd.prog GG 0) (self : sanePt → Option Bool) (hself : ∀ pt r, self pt = some r → sane_at n B N r pt) (x10 x11 x12 x13 x14 x15 : Bool) (r : Bool) (h : sane_l7 n self x10 x11 x12 x13 x14 x15 = some r) : sane_at (n + 1) B N r (.l7 x10 x11 x12 x13 x14 x15) := by
  have hX : HX Fence.wide Tryd.prog := ⟨FOk.wide, by kernel_rfl⟩
  show TrK _ _ _ _ _ _ _ _ _
  unfold sane_l7 at h
  rcases bifSome h with ⟨c0, h⟩ | ⟨c0, h⟩
  · rcases bifSome h with ⟨c1, h⟩ | ⟨c1, h⟩
    · rcases bifSome h with ⟨c2, h⟩ | ⟨c2, h⟩
      · rcases bifSome h with ⟨c3, h⟩ | ⟨c3, h⟩
        · rcases bifSome h with ⟨c4, h⟩ | ⟨c4, h⟩
          · obtain rfl := Option.some.inj h
            exact TrK.e hX (stopAt 13 (stopAt 12 (stopAt 11 (stopAt 10 (stopAt 9 (stopAt 8 sch_sane)))))) 6 [0] [] [] (.o 139 (DLe.bool c0) <| .o 141 (DLe.bool c1) <| .o 144 (DLe.bool c2) <| .o 147 (DLe.bool c3) <| .o 150 (DLe.bool c4) <| .e) [] .e (by kernel_rfl)
          · obtain rfl := Option.some.inj h
            exact TrK.e hX (stopAt 13 (stopAt 12 (stopAt 11 (stopAt 10 (stopAt 9 (stopAt 8 sch_sane)))))) 6 [0] [] [] (.o 139 (DLe.bool c0) <| .o 141 (DLe.bool c1) <| .o 144 (DLe.bool c2) <| .o 147 (DLe.bool c3) <| .o 150 (DLe.bool c4) <| .e) [] .e (by kernel_rfl)
        · obtain rfl := Option.some.inj h
          exact TrK.e hX (stopAt 13 (stopAt 12 (stopAt 11 (stopAt 10 (stopAt 9 (stopAt 8 sch_sane)))))) 6 [0] [] [] (.o 139 (DLe.bool c0) <| .o 141 (DLe.bool c1) <| .o 144 (DLe.bool c2) <| .o 147 (DLe.bool c3) <| .e) [] .e (by kernel_rfl)
      · obtain rfl := Option.some.inj h
        exact TrK.e hX (stopAt 13 (stopAt 12 (stopAt 11 (stopAt 10 (stopAt 9 (stopAt 8 sch_sane)))))) 6 [0] [] [] (.o 139 (DLe.bool c0) <| .o 141 (DLe.bool c1) <| .o 144 (DLe.bool c2) <| .e) [] .e (by kernel_rfl)
    · obtain rfl := Option.some.inj h
      exact TrK.e hX (stopAt 13 (stopAt 12 (stopAt 11 (stopAt 10 (stopAt 9 (stopAt 8 sch_sane)))))) 6 [0] [] [] (.o 139 (DLe.bool c0) <| .o 141 (DLe.bool c1) <| .e) [] .e (by kernel_rfl)
  · obtain rfl := Option.some.inj h
    exact TrK.e hX (stopAt 13 (stopAt 12 (stopAt 11 (stopAt 10 (stopAt 9 (stopAt 8 sch_sane)))))) 6 [0] [] [] (.o 139 (DLe.bool c0) <| .e) [] .e (by kernel_rfl)
theorem sane_all (B : Nat) (N : Yard Tryd.prog GG 0) : ∀ (n : Nat) (pt : sanePt) (r : Bool), sane_m n pt = some r → sane_at n B N r pt
  | 0, _, _, h => by cases h
  | n + 1, .l1 o0_0 o0_1 o0_2 o0_3 o0_4, r, h => sane_p1 n B N (sane_m n) (sane_all B N n) o0_0 o0_1 o0_2 o0_3 o0_4 r h
  | n + 1, .l2 x10, r, h => sane_p2 n B N (sane_m n) (sane_all B N n) x10 r h
  | n + 1, .l3 x10 x11, r, h => sane_p3 n B N (sane_m n) (sane_all B N n) x10 x11 r h
  | n + 1, .l4 x10 x11 x12, r, h => sane_p4 n B N (sane_m n) (sane_all B N n) x10 x11 x12 r h
  | n + 1, .l5 x10 x11 x12 x13, r, h => sane_p5 n B N (sane_m n) (sane_all B N n) x10 x11 x12 x13 r h
  | n + 1, .l6 x10 x11 x12 x13 x14, r, h => sane_p6 n B N (sane_m n) (sane_all B N n) x10 x11 x12 x13 x14 r h
  | n + 1, .l7 x10 x11 x12 x13 x14 x15, r, h => sane_p7 n B N (sane_m n) (sane_all B N n) x10 x11 x12 x13 x14 x15 r h
set_option maxRecDepth 100000 in
set_option maxHeartbeats 4000000 in
theorem sane_ok {n : Nat} {r : Bool} (h : sane n = some r) : ES Tryd.prog GG 7 [] [] (.bool r) [] true := by
  have hX : HX Fence.wide Tryd.prog := ⟨FOk.wide, by kernel_rfl⟩
  refine ES.of_trk Tryd.func7 (by kernel_rfl) (by kernel_rfl) noIter_nil (fun _ => rfl) fun B N => ?_
  have hself := sane_all B N n
  unfold sane at h
  generalize sane_m n = self at h hself
  unfold sane_l0 at h
  obtain ⟨y1, hy1, h⟩ := bindSome h
  obtain ⟨y2, hy2, h⟩ := bindSome h
  obtain ⟨y3, hy3, h⟩ := bindSome h
  obtain ⟨y4, hy4, h⟩ := bindSome h
  obtain ⟨y5, hy5, h⟩ := bindSome h
  obtain ⟨y6, hy6, h⟩ := bindSome h
  rcases bifSome h with ⟨c0, h⟩ | ⟨c0, h⟩
  · obtain rfl := Option.some.inj h
    exact TrK.e hX (stopAt 14 (stopAt 13 (stopAt 12 (stopAt 11 (stopAt 10 (stopAt 9 (stopAt 8 sch_sane))))))) 23 [0] [] [] (.c (ES.frameB (ES.argsLe (ds := [.int .i64 3, .int .i64 3, .agg 9 (L1 [.int .i64 1, .nils, .int .i64 0, .int .i64 0, .int .i64 0, .int .i64 0, .nils, .int .i64 0, .int .i64 0])]) (lineQ_ok 3 3 1 0 0 0 0 ([] : List Int) 0 0 hy1) ⟨dle_refl, dle_refl, (DLe.aggL (l := [.int .i64 1, .nils, .int .i64 0, .int .i64 0, .int .i64 0, .int .i64 0, .nils, .int .i64 0, .int .i64 0]) (l' := [.int .i64 1, .nils, .int .i64 0, .int .i64 0, .int .i64 0, .int .i64 0, .ints ([] : List Int), .int .i64 0, .int .i64 0]) rfl ⟨(DLe.refl _), (DLe.refl _), (DLe.refl _), (DLe.refl _), (DLe.refl _), (DLe.refl _), DLe.ints_nil, (DLe.refl _), (DLe.refl _), trivial⟩), trivial⟩) [] (by kernel_rfl)) <| .g trivial <| .z 20 1 <| .g (by decide : 3 = ([1, 3, 7] : List Int).length) <| .c (ES.frameB (lostP_ok y1 0 ([1, 3, 7] : List Int) hy2) [some (.cells (probC y1)), none] (by kernel_rfl)) <| .c (ES.frameB (ES.argsLe (ds := [.int .i64 2, .int .i64 3, .agg 9 (L1 [.int .i64 3, .nils, .int .i64 0, .int .i64 0, .int .i64 0, .int .i64 3, .nils, .int .i64 0, .int .i64 0])]) (lineQ_ok 2 3 3 0 0 0 3 ([] : List Int) 0 0 hy3) ⟨dle_refl, dle_refl, (DLe.aggL (l := [.int .i64 3, .nils, .int .i64 0, .int .i64 0, .int .i64 0, .int .i64 3, .nils, .int .i64 0, .int .i64 0]) (l' := [.int .i64 3, .nils, .int .i64 0, .int .i64 0, .int .i64 0, .int .i64 3, .ints ([] : List Int), .int .i64 0, .int .i64 0]) rfl ⟨(DLe.refl _), (DLe.refl _), (DLe.refl _), (DLe.refl _), (DLe.refl _), (DLe.refl _), DLe.ints_nil, (DLe.refl _), (DLe.refl _), trivial⟩), trivial⟩) [some (.cells (probC y1)), none] (by kernel_rfl)) <| .c (ES.frameB (levelP_ok y3 0 hy4) [some (.cells (probC y1)), none] (by kernel_rfl)) <| .z 32 2 <| .g (by decide : 3 = ([1, 3, 7] : List Int).length) <| .c (ES.frameB (pruneP_ok y1 1 ([1, 3, 7] : List Int) hy5) [some (.cells (probC y1)), none, none] (by kernel_rfl)) <| .c (ES.snapB (ds := [.agg 5 (L1 [.int .i64 0, .int .i64 0, .nils, .nils, .nils]), .int .i64 0]) (levelP_ok (⟨0, 0, ([] : List Int), ([] : List (List Int)), ([] : List ConsD)⟩ : ProbD) 0 hy6) [some (.cells (probC y1)), none, none] ⟨(Snap.dle (by kernel_rfl) (DLe.aggL (l := [.int .i64 0, .int .i64 0, .nils, .nils, .nils]) (l' := [.int .i64 0, .int .i64 0, .ints ([] : List Int), .sl 1 (([] : List (List Int)).length) (rowE intsC ([] : List (List Int))), .sl 9 (([] : List ConsD).length) (rowE consC ([] : List ConsD))]) rfl ⟨(DLe.refl _), (DLe.refl _), DLe.ints_nil, (DLe.sl_nil _ _), (DLe.sl_nil _ _), trivial⟩)), Snap.plain (by kernel_rfl), trivial⟩ (by kernel_rfl)) <| .o 42 (DLe.bool c0) <| .e) [] .e (by kernel_rfl)
  · rcases bifSome h with ⟨c1, h⟩ | ⟨c1, h⟩
    · obtain rfl := Option.some.inj h
      exact TrK.e hX (stopAt 14 (stopAt 13 (stopAt 12 (stopAt 11 (stopAt 10 (stopAt 9 (stopAt 8 sch_sane))))))) 23 [0] [] [] (.c (ES.frameB (ES.argsLe (ds := [.int .i64 3, .int .i64 3, .agg 9 (L1 [.int .i64 1, .nils, .int .i64 0, .int .i64 0, .int .i64 0, .int .i64 0, .nils, .int .i64 0, .int .i64 0])]) (lineQ_ok 3 3 1 0 0 0 0 ([] : List Int) 0 0 hy1) ⟨dle_refl, dle_refl, (DLe.aggL (l := [.int .i64 1, .nils, .int .i64 0, .int .i64 0, .int .i64 0, .int .i64 0, .nils, .int .i64 0, .int .i64 0]) (l' := [.int .i64 1, .nils, .int .i64 0, .int .i64 0, .int .i64 0, .int .i64 0, .ints ([] : List Int), .int .i64 0, .int .i64 0]) rfl ⟨(DLe.refl _), (DLe.refl _), (DLe.refl _), (DLe.refl _), (DLe.refl _), (DLe.refl _), DLe.ints_nil, (DLe.refl _), (DLe.refl _), trivial⟩), trivial⟩) [] (by kernel_rfl)) <| .g trivial <| .z 20 1 <| .g (by decide : 3 = ([1, 3, 7] : List Int).length) <| .c (ES.frameB (lostP_ok y1 0 ([1, 3, 7] : List Int) hy2) [some (.cells (probC y1)), none] (by kernel_rfl)) <| .c (ES.frameB (ES.argsLe (ds := [.int .i64 2, .int .i64 3, .agg 9 (L1 [.int .i64 3, .nils, .int .i64 0, .int .i64 0, .int .i64 0, .int .i64 3, .nils, .int .i64 0, .int .i64 0])]) (lineQ_ok 2 3 3 0 0 0 3 ([] : List Int) 0 0 hy3) ⟨dle_refl, dle_refl, (DLe.aggL (l := [.int .i64 3, .nils, .int .i64 0, .int .i64 0, .int .i64 0, .int .i64 3, .nils, .int .i64 0, .int .i64 0]) (l' := [.int .i64 3, .nils, .int .i64 0, .int .i64 0, .int .i64 0, .int .i64 3, .ints ([] : List Int), .int .i64 0, .int .i64 0]) rfl ⟨(DLe.refl _), (DLe.refl _), (DLe.refl _), (DLe.refl _), (DLe.refl _), (DLe.refl _), DLe.ints_nil, (DLe.refl _), (DLe.refl _), trivial⟩), trivial⟩) [some (.cells (probC y1)), none] (by kernel_rfl)) <| .c (ES.frameB (levelP_ok y3 0 hy4) [some (.cells (probC y1)), none] (by kernel_rfl)) <| .z 32 2 <| .g (by decide : 3 = ([1, 3, 7] : List Int).length) <| .c (ES.frameB (pruneP_ok y1 1 ([1, 3, 7] : List Int) hy5) [some (.cells (probC y1)), none, none] (by kernel_rfl)) <| .c (ES.snapB (ds := [.agg 5 (L1 [.int .i64 0, .int .i64 0, .nils, .nils, .nils]), .int .i64 0]) (levelP_ok (⟨0, 0, ([] : List Int), ([] : List (List Int)), ([] : List ConsD)⟩ : ProbD) 0 hy6) [some (.cells (probC y1)), none, none] ⟨(Snap.dle (by kernel_rfl) (DLe.aggL (l := [.int .i64 0, .int .i64 0, .nils, .nils, .nils]) (l' := [.int .i64 0, .int .i64 0, .ints ([] : List Int), .sl 1 (([] : List (List Int)).length) (rowE intsC ([] : List (List Int))), .sl 9 (([] : List ConsD).length) (rowE consC ([] : List ConsD))]) rfl ⟨(DLe.refl _), (DLe.refl _), DLe.ints_nil, (DLe.sl_nil _ _), (DLe.sl_nil _ _), trivial⟩)), Snap.plain (by kernel_rfl), trivial⟩ (by kernel_rfl)) <| .o 42 (DLe.bool c0) <| .o 45 (DLe.bool c1) <| .e) [] .e (by kernel_rfl)
    · rcases bifSome h with ⟨c2, h⟩ | ⟨c2, h⟩
      · obtain rfl := Option.some.inj h
        exact TrK.e hX (stopAt 14 (stopAt 13 (stopAt 12 (stopAt 11 (stopAt 10 (stopAt 9 (stopAt 8 sch_sane))))))) 23 [0] [] [] (.c (ES.frameB (ES.argsLe (ds := [.int .i64 3, .int .i64 3, .agg 9 (L1 [.int .i64 1, .nils, .int .i64 0, .int .i64 0, .int .i64 0, .int .i64 0, .nils, .int .i64 0, .int .i64 0])]) (lineQ_ok 3 3 1 0 0 0 0 ([] : List Int) 0 0 hy1) ⟨dle_refl, dle_refl, (DLe.aggL (l := [.int .i64 1, .nils, .int .i64 0, .int .i64 0, .int .i64 0, .int .i64 0, .nils, .int .i64 0, .int .i64 0]) (l' := [.int .i64 1, .nils, .int .i64 0, .int .i64 0, .int .i64 0, .int .i64 0, .ints ([] : List Int), .int .i64 0, .int .i64 0]) rfl ⟨(DLe.refl _), (DLe.refl _), (DLe.refl _), (DLe.refl _), (DLe.refl _), (DLe.refl _), DLe.ints_nil, (DLe.refl _), (DLe.refl _), trivial⟩), trivial⟩) [] (by kernel_rfl)) <| .g trivial <| .z 20 1 <| .g (by decide : 3 = ([1, 3, 7] : List Int).length) <| .c (ES.frameB (lostP_ok y1 0 ([1, 3, 7] : List Int) hy2) [some (.cells (probC y1)), none] (by kernel_rfl)) <| .c (ES.frameB (ES.argsLe (ds := [.int .i64 2, .int .i64 3, .agg 9 (L1 [.int .i64 3, .nils, .int .i64 0, .int .i64 0, .int .i64 0, .int .i64 3, .nils, .int .i64 0, .int .i64 0])]) (lineQ_ok 2 3 3 0 0 0 3 ([] : List Int) 0 0 hy3) ⟨dle_refl, dle_refl, (DLe.aggL (l := [.int .i64 3, .nils, .int .i64 0, .int .i64 0, .int .i64 0, .int .i64 3, .nils, .int .i64 0, .int .i64 0]) (l' := [.int .i64 3, .nils, .int .i64 0, .int .i64 0, .int .i64 0, .int .i64 3, .ints ([] : List Int), .int .i64 0, .int .i64 0]) rfl ⟨(DLe.refl _), (DLe.refl _), (DLe.refl _), (DLe.refl _), (DLe.refl _), (DLe.refl _), DLe.ints_nil, (DLe.refl _), (DLe.refl _), trivial⟩), trivial⟩) [some (.cells (probC y1)), none] (by kernel_rfl)) <| .c (ES.frameB (levelP_ok y3 0 hy4) [some (.cells (probC y1)), none] (by kernel_rfl)) <| .z 32 2 <| .g (by decide : 3 = ([1, 3, 7] : List Int).length) <| .c (ES.frameB (pruneP_ok y1 1 ([1, 3, 7] : List Int) hy5) [some (.cells (probC y1)), none, none] (by kernel_rfl)) <| .c (ES.snapB (ds := [.agg 5 (L1 [.int .i64 0, .int .i64 0, .nils, .nils, .nils]), .int .i64 0]) (levelP_ok (⟨0, 0, ([] : List Int), ([] : List (List Int)), ([] : List ConsD)⟩ : ProbD) 0 hy6) [some (.cells (probC y1)), none, none] ⟨(Snap.dle (by kernel_rfl) (DLe.aggL (l := [.int .i64 0, .int .i64 0, .nils, .nils, .nils]) (l' := [.int .i64 0, .int .i64 0, .ints ([] : List Int), .sl 1 (([] : List (List Int)).length) (rowE intsC ([] : List (List Int))), .sl 9 (([] : List ConsD).length) (rowE consC ([] : List ConsD))]) rfl ⟨(DLe.refl _), (DLe.refl _), DLe.ints_nil, (DLe.sl_nil _ _), (DLe.sl_nil _ _), trivial⟩)), Snap.plain (by kernel_rfl), trivial⟩ (by kernel_rfl)) <| .o 42 (DLe.bool c0) <| .o 45 (DLe.bool c1) <| .o 49 (DLe.bool c2) <| .e) [] .e (by kernel_rfl)
      · rcases bifSome h with ⟨c3, h⟩ | ⟨c3, h⟩
        · obtain rfl := Option.some.inj h
          exact TrK.e hX (stopAt 14 (stopAt 13 (stopAt 12 (stopAt 11 (stopAt 10 (stopAt 9 (stopAt 8 sch_sane))))))) 23 [0] [] [] (.c (ES.frameB (ES.argsLe (ds := [.int .i64 3, .int .i64 3, .agg 9 (L1 [.int .i64 1, .nils, .int .i64 0, .int .i64 0, .int .i64 0, .int .i64 0, .nils, .int .i64 0, .int .i64 0])]) (lineQ_ok 3 3 1 0 0 0 0 ([] : List Int) 0 0 hy1) ⟨dle_refl, dle_refl, (DLe.aggL (l := [.int .i64 1, .nils, .int .i64 0, .int .i64 0, .int .i64 0, .int .i64 0, .nils, .int .i64 0, .int .i64 0]) (l' := [.int .i64 1, .nils, .int .i64 0, .int .i64 0, .int .i64 0, .int .i64 0, .ints ([] : List Int), .int .i64 0, .int .i64 0]) rfl ⟨(DLe.refl _), (DLe.refl _), (DLe.refl _), (DLe.refl _), (DLe.refl _), (DLe.refl _), DLe.ints_nil, (DLe.refl _), (DLe.refl _), trivial⟩), trivial⟩) [] (by kernel_rfl)) <| .g trivial <| .z 20 1 <| .g (by decide : 3 = ([1, 3, 7] : List Int).length) <| .c (ES.frameB (lostP_ok y1 0 ([1, 3, 7] : List Int) hy2) [some (.cells (probC y1)), none] (by kernel_rfl)) <| .c (ES.frameB (ES.argsLe (ds := [.int .i64 2, .int .i64 3, .agg 9 (L1 [.int .i64 3, .nils, .int .i64 0, .int .i64 0, .int .i64 0, .int .i64 3, .nils, .int .i64 0, .int .i64 0])]) (lineQ_ok 2 3 3 0 0 0 3 ([] : List Int) 0 0 hy3) ⟨dle_refl, dle_refl, (DLe.aggL (l := [.int .i64 3, .nils, .int .i64 0, .int .i64 0, .int .i64 0, .int .i64 3, .nils, .int .i64 0, .int .i64 0]) (l' := [.int .i64 3, .nils, .int .i64 0, .int .i64 0, .int .i64 0, .int .i64 3, .ints ([] : List Int), .int .i64 0, .int .i64 0]) rfl ⟨(DLe.refl _), (DLe.refl _), (DLe.refl _), (DLe.refl _), (DLe.refl _), (DLe.refl _), DLe.ints_nil, (DLe.refl _), (DLe.refl _), trivial⟩), trivial⟩) [some (.cells (probC y1)), none] (by kernel_rfl)) <| .c (ES.frameB (levelP_ok y3 0 hy4) [some (.cells (probC y1)), none] (by kernel_rfl)) <| .z 32 2 <| .g (by decide : 3 = ([1, 3, 7] : List Int).length) <| .c (ES.frameB (pruneP_ok y1 1 ([1, 3, 7] : List Int) hy5) [some (.cells (probC y1)), none, none] (by kernel_rfl)) <| .c (ES.snapB (ds := [.agg 5 (L1 [.int .i64 0, .int .i64 0, .nils, .nils, .nils]), .int .i64 0]) (levelP_ok (⟨0, 0, ([] : List Int), ([] : List (List Int)), ([] : List ConsD)⟩ : ProbD) 0 hy6) [some (.cells (probC y1)), none, none] ⟨(Snap.dle (by kernel_rfl) (DLe.aggL (l := [.int .i64 0, .int .i64 0, .nils, .nils, .nils]) (l' := [.int .i64 0, .int .i64 0, .ints ([] : List Int), .sl 1 (([] : List (List Int)).length) (rowE intsC ([] : List (List Int))), .sl 9 (([] : List ConsD).length) (rowE consC ([] : List ConsD))]) rfl ⟨(DLe.refl _), (DLe.refl _), DLe.ints_nil, (DLe.sl_nil _ _), (DLe.sl_nil _ _), trivial⟩)), Snap.plain (by kernel_rfl), trivial⟩ (by kernel_rfl)) <| .o 42 (DLe.bool c0) <| .o 45 (DLe.bool c1) <| .o 49 (DLe.bool c2) <| .o 53 (DLe.bool c3) <| .e) [] .e (by kernel_rfl)
        · rcases bifSome h with ⟨c4, h⟩ | ⟨c4, h⟩
          · obtain rfl := Option.some.inj h
            exact TrK.e hX (stopAt 14 (stopAt 13 (stopAt 12 (stopAt 11 (stopAt 10 (stopAt 9 (stopAt 8 sch_sane))))))) 23 [0] [] [] (.c (ES.frameB (ES.argsLe (ds := [.int .i64 3, .int .i64 3, .agg 9 (L1 [.int .i64 1, .nils, .int .i64 0, .int .i64 0, .int .i64 0, .int .i64 0, .nils, .int .i64 0, .int .i64 0])]) (lineQ_ok 3 3 1 0 0 0 0 ([] : List Int) 0 0 hy1) ⟨dle_refl, dle_refl, (DLe.aggL (l := [.int .i64 1, .nils, .int .i64 0, .int .i64 0, .int .i64 0, .int .i64 0, .nils, .int .i64 0, .int .i64 0]) (l' := [.int .i64 1, .nils, .int .i64 0, .int .i64 0, .int .i64 0, .int .i64 0, .ints ([] : List Int), .int .i64 0, .int .i64 0]) rfl ⟨(DLe.refl _), (DLe.refl _), (DLe.refl _), (DLe.refl _), (DLe.refl _), (DLe.refl _), DLe.ints_nil, (DLe.refl _), (DLe.refl _), trivial⟩), trivial⟩) [] (by kernel_rfl)) <| .g trivial <| .z 20 1 <| .g (by decide : 3 = ([1, 3, 7] : List Int).length) <| .c (ES.frameB (lostP_ok y1 0 ([1, 3, 7] : List Int) hy2) [some (.cells (probC y1)), none] (by kernel_rfl)) <| .c (ES.frameB (ES.argsLe (ds := [.int .i64 2, .int .i64 3, .agg 9 (L1 [.int .i64 3, .nils, .int .i64 0, .int .i64 0, .int .i64 0, .int .i64 3, .nils, .int .i64 0, .int .i64 0])]) (lineQ_ok 2 3 3 0 0 0 3 ([] : List Int) 0 0 hy3) ⟨dle_refl, dle_refl, (DLe.aggL (l := [.int .i64 3, .nils, .int .i64 0, .int .i64 0, .int .i64 0, .int .i64 3, .nils, .int .i64 0, .int .i64 0]) (l' := [.int .i64 3, .nils, .int .i64 0, .int .i64 0, .int .i64 0, .int .i64 3, .ints ([] : List Int), .int .i64 0, .int .i64 0]) rfl ⟨(DLe.refl _), (DLe.refl _), (DLe.refl _), (DLe.refl _), (DLe.refl _), (DLe.refl _), DLe.ints_nil, (DLe.refl _), (DLe.refl _), trivial⟩), trivial⟩) [some (.cells (probC y1)), none] (by kernel_rfl)) <| .c (ES.frameB (levelP_ok y3 0 hy4) [some (.cells (probC y1)), none] (by kernel_rfl)) <| .z 32 2 <| .g (by decide : 3 = ([1, 3, 7] : List Int).length) <| .c (ES.frameB (pruneP_ok y1 1 ([1, 3, 7] : List Int) hy5) [some (.cells (probC y1)), none, none] (by kernel_rfl)) <| .c (ES.snapB (ds := [.agg 5 (L1 [.int .i64 0, .int .i64 0, .nils, .nils, .nils]), .int .i64 0]) (levelP_ok (⟨0, 0, ([] : List Int), ([] : List (List Int)), ([] : List ConsD)⟩ : ProbD) 0 hy6) [some (.cells (probC y1)), none, none] ⟨(Snap.dle (by kernel_rfl) (DLe.aggL (l := [.int .i64 0, .int .i64 0, .nils, .nils, .nils]) (l' := [.int .i64 0, .int .i64 0, .ints ([] : List Int), .sl 1 (([] : List (List Int)).length) (rowE intsC ([] : List (List Int))), .sl 9 (([] : List ConsD).length) (rowE consC ([] : List ConsD))]) rfl ⟨(DLe.refl _), (DLe.refl _), DLe.ints_nil, (DLe.sl_nil _ _), (DLe.sl_nil _ _), trivial⟩)), Snap.plain (by kernel_rfl), trivial⟩ (by kernel_rfl)) <| .o 42 (DLe.bool c0) <| .o 45 (DLe.bool c1) <| .o 49 (DLe.bool c2) <| .o 53 (DLe.bool c3) <| .o 57 (DLe.bool c4) <| .e) [] .e (by kernel_rfl)
          · obtain ⟨y7, hy7, h⟩ := bindSome h
            rcases bifSome h with ⟨c5, h⟩ | ⟨c5, h⟩
            · obtain rfl := Option.some.inj h
              exact TrK.e hX (stopAt 14 (stopAt 13 (stopAt 12 (stopAt 11 (stopAt 10 (stopAt 9 (stopAt 8 sch_sane))))))) 23 [0] [] [] (.c (ES.frameB (ES.argsLe (ds := [.int .i64 3, .int .i64 3, .agg 9 (L1 [.int .i64 1, .nils, .int .i64 0, .int .i64 0, .int .i64 0, .int .i64 0, .nils, .int .i64 0, .int .i64 0])]) (lineQ_ok 3 3 1 0 0 0 0 ([] : List Int) 0 0 hy1) ⟨dle_refl, dle_refl, (DLe.aggL (l := [.int .i64 1, .nils, .int .i64 0, .int .i64 0, .int .i64 0, .int .i64 0, .nils, .int .i64 0, .int .i64 0]) (l' := [.int .i64 1, .nils, .int .i64 0, .int .i64 0, .int .i64 0, .int .i64 0, .ints ([] : List Int), .int .i64 0, .int .i64 0]) rfl ⟨(DLe.refl _), (DLe.refl _), (DLe.refl _), (DLe.refl _), (DLe.refl _), (DLe.refl _), DLe.ints_nil, (DLe.refl _), (DLe.refl _), trivial⟩), trivial⟩) [] (by kernel_rfl)) <| .g trivial <| .z 20 1 <| .g (by decide : 3 = ([1, 3, 7] : List Int).length) <| .c (ES.frameB (lostP_ok y1 0 ([1, 3, 7] : List Int) hy2) [some (.cells (probC y1)), none] (by kernel_rfl)) <| .c (ES.frameB (ES.argsLe (ds := [.int .i64 2, .int .i64 3, .agg 9 (L1 [.int .i64 3, .nils, .int .i64 0, .int .i64 0, .int .i64 0, .int .i64 3, .nils, .int .i64 0, .int .i64 0])]) (lineQ_ok 2 3 3 0 0 0 3 ([] : List Int) 0 0 hy3) ⟨dle_refl, dle_refl, (DLe.aggL (l := [.int .i64 3, .nils, .int .i64 0, .int .i64 0, .int .i64 0, .int .i64 3, .nils, .int .i64 0, .int .i64 0]) (l' := [.int .i64 3, .nils, .int .i64 0, .int .i64 0, .int .i64 0, .int .i64 3, .ints ([] : List Int), .int .i64 0, .int .i64 0]) rfl ⟨(DLe.refl _), (DLe.refl _), (DLe.refl _), (DLe.refl _), (DLe.refl _), (DLe.refl _), DLe.ints_nil, (DLe.refl _), (DLe.refl _), trivial⟩), trivial⟩) [some (.cells (probC y1)), none] (by kernel_rfl)) <| .c (ES.frameB (levelP_ok y3 0 hy4) [some (.cells (probC y1)), none] (by kernel_rfl)) <| .z 32 2 <| .g (by decide : 3 = ([1, 3, 7] : List Int).length) <| .c (ES.frameB (pruneP_ok y1 1 ([1, 3, 7] : List Int) hy5) [some (.cells (probC y1)), none, none] (by kernel_rfl)) <| .c (ES.snapB (ds := [.agg 5 (L1 [.int .i64 0, .int .i64 0, .nils, .nils, .nils]), .int .i64 0]) (levelP_ok (⟨0, 0, ([] : List Int), ([] : List (List Int)), ([] : List ConsD)⟩ : ProbD) 0 hy6) [some (.cells (probC y1)), none, none] ⟨(Snap.dle (by kernel_rfl) (DLe.aggL (l := [.int .i64 0, .int .i64 0, .nils, .nils, .nils]) (l' := [.int .i64 0, .int .i64 0, .ints ([] : List Int), .sl 1 (([] : List (List Int)).length) (rowE intsC ([] : List (List Int))), .sl 9 (([] : List ConsD).length) (rowE consC ([] : List ConsD))]) rfl ⟨(DLe.refl _), (DLe.refl _), DLe.ints_nil, (DLe.sl_nil _ _), (DLe.sl_nil _ _), trivial⟩)), Snap.plain (by kernel_rfl), trivial⟩ (by kernel_rfl)) <| .o 42 (DLe.bool c0) <| .o 45 (DLe.bool c1) <| .o 49 (DLe.bool c2) <| .o 53 (DLe.bool c3) <| .o 57 (DLe.bool c4) <| .a 63 3 2 (rows_build (c := iiC) (L := ([(1, 0), (2, 0)] : List (Int × Int))) (vals := [.agg 2 (L1 [.int .i64 1, .int .i64 0]), .agg 2 (L1 [.int .i64 2, .int .i64 0])]) rfl ⟨⟨_, rfl, ⟨dle_refl, dle_refl, trivial⟩⟩, ⟨_, rfl, ⟨dle_refl, dle_refl, trivial⟩⟩, trivial⟩) <| .z 63 3 <| .g (by decide : 2 = ([(1, 0), (2, 0)] : List (Int × Int)).length) <| .c (ES.frameB (samePairs_ok y2.1 ([(1, 0), (2, 0)] : List (Int × Int)) hy7) [some (.cells (probC y1)), none, none, none] (by kernel_rfl)) <| .o 65 (DLe.bool c5) <| .e) [] .e (by kernel_rfl)
            · exact TrK.g hX (stopAt 14 (stopAt 13 (stopAt 12 (stopAt 11 (stopAt 10 (stopAt 9 (stopAt 8 sch_sane))))))) 23 [1] [0] [] (.c (ES.frameB (ES.argsLe (ds := [.int .i64 3, .int .i64 3, .agg 9 (L1 [.int .i64 1, .nils, .int .i64 0, .int .i64 0, .int .i64 0, .int .i64 0, .nils, .int .i64 0, .int .i64 0])]) (lineQ_ok 3 3 1 0 0 0 0 ([] : List Int) 0 0 hy1) ⟨dle_refl, dle_refl, (DLe.aggL (l := [.int .i64 1, .nils, .int .i64 0, .int .i64 0, .int .i64 0, .int .i64 0, .nils, .int .i64 0, .int .i64 0]) (l' := [.int .i64 1, .nils, .int .i64 0, .int .i64 0, .int .i64 0, .int .i64 0, .ints ([] : List Int), .int .i64 0, .int .i64 0]) rfl ⟨(DLe.refl _), (DLe.refl _), (DLe.refl _), (DLe.refl _), (DLe.refl _), (DLe.refl _), DLe.ints_nil, (DLe.refl _), (DLe.refl _), trivial⟩), trivial⟩) [] (by kernel_rfl)) <| .g trivial <| .z 20 1 <| .g (by decide : 3 = ([1, 3, 7] : List Int).length) <| .c (ES.frameB (lostP_ok y1 0 ([1, 3, 7] : List Int) hy2) [some (.cells (probC y1)), none] (by kernel_rfl)) <| .c (ES.frameB (ES.argsLe (ds := [.int .i64 2, .int .i64 3, .agg 9 (L1 [.int .i64 3, .nils, .int .i64 0, .int .i64 0, .int .i64 0, .int .i64 3, .nils, .int .i64 0, .int .i64 0])]) (lineQ_ok 2 3 3 0 0 0 3 ([] : List Int) 0 0 hy3) ⟨dle_refl, dle_refl, (DLe.aggL (l := [.int .i64 3, .nils, .int .i64 0, .int .i64 0, .int .i64 0, .int .i64 3, .nils, .int .i64 0, .int .i64 0]) (l' := [.int .i64 3, .nils, .int .i64 0, .int .i64 0, .int .i64 0, .int .i64 3, .ints ([] : List Int), .int .i64 0, .int .i64 0]) rfl ⟨(DLe.refl _), (DLe.refl _), (DLe.refl _), (DLe.refl _), (DLe.refl _), (DLe.refl _), DLe.ints_nil, (DLe.refl _), (DLe.refl _), trivial⟩), trivial⟩) [some (.cells (probC y1)), none] (by kernel_rfl)) <| .c (ES.frameB (levelP_ok y3 0 hy4) [some (.cells (probC y1)), none] (by kernel_rfl)) <| .z 32 2 <| .g (by decide : 3 = ([1, 3, 7] : List Int).length) <| .c (ES.frameB (pruneP_ok y1 1 ([1, 3, 7] : List Int) hy5) [some (.cells (probC y1)), none, none] (by kernel_rfl)) <| .c (ES.snapB (ds := [.agg 5 (L1 [.int .i64 0, .int .i64 0, .nils, .nils, .nils]), .int .i64 0]) (levelP_ok (⟨0, 0, ([] : List Int), ([] : List (List Int)), ([] : List ConsD)⟩ : ProbD) 0 hy6) [some (.cells (probC y1)), none, none] ⟨(Snap.dle (by kernel_rfl) (DLe.aggL (l := [.int .i64 0, .int .i64 0, .nils, .nils, .nils]) (l' := [.int .i64 0, .int .i64 0, .ints ([] : List Int), .sl 1 (([] : List (List Int)).length) (rowE intsC ([] : List (List Int))), .sl 9 (([] : List ConsD).length) (rowE consC ([] : List ConsD))]) rfl ⟨(DLe.refl _), (DLe.refl _), DLe.ints_nil, (DLe.sl_nil _ _), (DLe.sl_nil _ _), trivial⟩)), Snap.plain (by kernel_rfl), trivial⟩ (by kernel_rfl)) <| .o 42 (DLe.bool c0) <| .o 45 (DLe.bool c1) <| .o 49 (DLe.bool c2) <| .o 53 (DLe.bool c3) <| .o 57 (DLe.bool c4) <| .a 63 3 2 (rows_build (c := iiC) (L := ([(1, 0), (2, 0)] : List (Int × Int))) (vals := [.agg 2 (L1 [.int .i64 1, .int .i64 0]), .agg 2 (L1 [.int .i64 2, .int .i64 0])]) rfl ⟨⟨_, rfl, ⟨dle_refl, dle_refl, trivial⟩⟩, ⟨_, rfl, ⟨dle_refl, dle_refl, trivial⟩⟩, trivial⟩) <| .z 63 3 <| .g (by decide : 2 = ([(1, 0), (2, 0)] : List (Int × Int)).length) <| .c (ES.frameB (samePairs_ok y2.1 ([(1, 0), (2, 0)] : List (Int × Int)) hy7) [some (.cells (probC y1)), none, none, none] (by kernel_rfl)) <| .o 65 (DLe.bool c5) <| .e) (hself (.l1 y1.cells y1.symbols y1.values y1.nbrs y1.cons) r h) (by kernel_rfl) (by kernel_rfl)


def sch_lawLevel : Sch := fun i => match i with
  | _ => .no
def lawLevel_l0 (n : Nat) (q : ProbD) (i : Int) : Option Bool :=
  (sane n).bind fun y1 =>
   bif (!y1) then
    some false
   else
    (few n q ([] : List Int)).bind fun y2 =>
     bif (!y2) then
      some true
     else
      (levelP n q i).bind fun y3 =>
       (rlevel n q i).bind fun y4 =>
        bif (y3.1 == y4.1) then
         some (y3.2 == y4.2)
        else
         some false
def lawLevel (n : Nat) (q : ProbD) (i : Int) : Option Bool := lawLevel_l0 n q i
set_option maxRecDepth 100000 in
set_option maxHeartbeats 4000000 in
theorem lawLevel_ok {n : Nat} (q : ProbD) (i : Int) {r : Bool} (h : lawLevel n q i = some r) : ES Tryd.prog GG 3 [.agg 5 (L1 (probC q)), .int .i64 i] [] (.bool r) [] true := by
  have hX : HX Fence.wide Tryd.prog := ⟨FOk.wide, by kernel_rfl⟩
  refine ES.of_trk Tryd.func3 (by kernel_rfl) (by kernel_rfl) noIter_nil (fun _ => rfl) fun B N => ?_
  unfold lawLevel at h
  unfold lawLevel_l0 at h
  obtain ⟨y1, hy1, h⟩ := bindSome h
  rcases bifSome h with ⟨c0, h⟩ | ⟨c0, h⟩
  · obtain rfl := Option.some.inj h
    exact TrK.e hX sch_lawLevel 13 [4] [] [] (.c (ES.frameB (sane_ok hy1) [some (.cells (probC q))] (by kernel_rfl)) <| .o 10 (DLe.bool c0) <| .e) [] .e (by kernel_rfl)
  · obtain ⟨y2, hy2, h⟩ := bindSome h
    rcases bifSome h with ⟨c1, h⟩ | ⟨c1, h⟩
    · obtain rfl := Option.some.inj h
      exact TrK.e hX sch_lawLevel 18 [4] [] [] (.c (ES.frameB (sane_ok hy1) [some (.cells (probC q))] (by kernel_rfl)) <| .o 10 (DLe.bool c0) <| .c (ES.snapB (ds := [.agg 5 (L1 (probC q)), .nils]) (few_ok q ([] : List Int) hy2) [some (.cells (probC q))] ⟨Snap.plain (by kernel_rfl), Snap.nils, trivial⟩ (by kernel_rfl)) <| .o 13 (DLe.bool c1) <| .e) [] .e (by kernel_rfl)
    · obtain ⟨y3, hy3, h⟩ := bindSome h
      obtain ⟨y4, hy4, h⟩ := bindSome h
      rcases bifSome h with ⟨c2, h⟩ | ⟨c2, h⟩
      · cases h
        exact TrK.e hX sch_lawLevel 23 [4] [] [] (.c (ES.frameB (sane_ok hy1) [some (.cells (probC q))] (by kernel_rfl)) <| .o 10 (DLe.bool c0) <| .c (ES.snapB (ds := [.agg 5 (L1 (probC q)), .nils]) (few_ok q ([] : List Int) hy2) [some (.cells (probC q))] ⟨Snap.plain (by kernel_rfl), Snap.nils, trivial⟩ (by kernel_rfl)) <| .o 13 (DLe.bool c1) <| .c (ES.frameB (levelP_ok q i hy3) [some (.cells (probC q))] (by kernel_rfl)) <| .c (ES.frameB (rlevel_ok q i hy4) [some (.cells (probC q))] (by kernel_rfl)) <| .o 28 (DLe.bool c2) <| .e) [] .e (by kernel_rfl)
      · obtain rfl := Option.some.inj h
        exact TrK.e hX sch_lawLevel 23 [4] [] [] (.c (ES.frameB (sane_ok hy1) [some (.cells (probC q))] (by kernel_rfl)) <| .o 10 (DLe.bool c0) <| .c (ES.snapB (ds := [.agg 5 (L1 (probC q)), .nils]) (few_ok q ([] : List Int) hy2) [some (.cells (probC q))] ⟨Snap.plain (by kernel_rfl), Snap.nils, trivial⟩ (by kernel_rfl)) <| .o 13 (DLe.bool c1) <| .c (ES.frameB (levelP_ok q i hy3) [some (.cells (probC q))] (by kernel_rfl)) <| .c (ES.frameB (rlevel_ok q i hy4) [some (.cells (probC q))] (by kernel_rfl)) <| .o 28 (DLe.bool c2) <| .e) [] .e (by kernel_rfl)


end Go.Proofs.YtekkngkphejfcaaDoor
