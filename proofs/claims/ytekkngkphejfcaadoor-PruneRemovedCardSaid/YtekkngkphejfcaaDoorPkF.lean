/- Part 6 of 6 of what the proofs of these laws stand on. -/
import Derived.Test.YtekkngkphejfcaaDoorPkE
import Derived.Test.YtekkngkphejfcaaDoorRows
import Derived.ProofKit
import Derived.OpenShut
import Derived.Deep.DeepHandedRow
import Derived.Lib.LaidTab
import Derived.Deep.Slices
import Derived.Stop.LaidErr
import Derived.Test.YtekkngkphejfcaaDoorCards
import Derived.Test.YtekkngkphejfcaaDoorTie
set_option linter.all false
namespace Go.Proofs.YtekkngkphejfcaaDoor
open Go.RowKit
set_option maxRecDepth 100000
set_option maxHeartbeats 40000000
def hp_sane_0 (o0_0 o0_1 : Int) (o0_2 : List Int) (o0_3 : List (List Int)) (o0_4 : List ConsD) : DH := [some (.cells [.i o0_0, .i o0_1, .ints o0_2, .sl 1 o0_3.length (rowE intsC o0_3), .sl 9 o0_4.length (rowE consC o0_4)]), some (.ints ([1, 3, 7] : List Int)), some (.ints ([1, 2, 6] : List Int))]
def hp_sane_1 (o0_0 o0_1 : Int) (o0_2 : List Int) (o0_3 : List (List Int)) (o0_4 : List ConsD) : DH := [some (.cells [.i o0_0, .i o0_1, .ints o0_2, .sl 1 o0_3.length (rowE intsC o0_3), .sl 9 o0_4.length (rowE consC o0_4)]), some (.ints ([1, 3, 7] : List Int)), some (.ints ([1, 2, 6] : List Int)), some (.ints ([2, 3, 3] : List Int)), some (.ints ([2, 1, 1] : List Int))]
def hp_sane_2 : DH := [some (.ints ([1, 3, 3] : List Int)), some (.ints ([1, 2, 2] : List Int)), some (.ints ([2, 2, 3] : List Int)), some (.ints ([0, 0, 0] : List Int))]
def hp_sane_3 : DH := [some (.ints ([7, 7] : List Int)), some (.ints ([3, 3] : List Int)), some (.ints ([7, 7] : List Int)), some (.ints ([3, 6] : List Int))]
def hp_sane_4 : DH := [none, some (.ints ([3, 3, 3] : List Int)), some (.ints ([3, 2, 3] : List Int)), some (.ints ([7, 7] : List Int)), some (.ints ([5, 5] : List Int))]
def hp_sane_5 : DH := [some (.ints ([1, 3] : List Int)), some (.ints ([1, 2] : List Int)), some (.ints ([2, 3, 2] : List Int)), some (.ints ([2, 2, 2] : List Int))]
def hp_sane_6 : DH := [some (.ints ([3, 2, 3] : List Int)), some (.ints ([2, 2, 2] : List Int)), some (.ints ([2, 2, 2] : List Int)), some (.ints ([0, 0, 0] : List Int))]
inductive sanePt where
  | l1 (o0_0 o0_1 : Int) (o0_2 : List Int) (o0_3 : List (List Int)) (o0_4 : List ConsD)
  | l2 (x10 : Bool)
  | l3 (x10 x11 : Bool)
  | l4 (x10 x11 x12 : Bool)
  | l5 (x10 x11 x12 x13 : Bool)
  | l6 (x10 x11 x12 x13 x14 : Bool)
  | l7 (x10 x11 x12 x13 x14 x15 : Bool)
def sane_l1 (n : Nat) (self : sanePt → Option Bool) (o0_0 o0_1 : Int) (o0_2 : List Int) (o0_3 : List (List Int)) (o0_4 : List ConsD) : Option Bool :=
  (becomes n (⟨o0_0, o0_1, o0_2, o0_3, o0_4⟩ : ProbD) ([1, 3, 7] : List Int) ([1, 2, 6] : List Int)).bind fun y1 =>
   bif y1 then
    (lineQ n 3 2 2 2 0 1 1 ([] : List Int) 0 0).bind fun y2 =>
     (becomes n y2 ([2, 3, 3] : List Int) ([2, 1, 1] : List Int)).bind fun y3 =>
      self (.l2 y3)
   else
    self (.l2 false)
def sane_l2 (n : Nat) (self : sanePt → Option Bool) (x10 : Bool) : Option Bool :=
  (lineQ n 3 2 2 2 0 2 3 ([] : List Int) 0 0).bind fun y1 =>
   (becomes n y1 ([1, 3, 3] : List Int) ([1, 2, 2] : List Int)).bind fun y2 =>
    bif y2 then
     (lineQ n 3 2 2 2 0 0 1 ([] : List Int) 0 0).bind fun y3 =>
      (becomes n y3 ([2, 2, 3] : List Int) ([0, 0, 0] : List Int)).bind fun y4 =>
       self (.l3 x10 y4)
    else
     self (.l3 x10 false)
def sane_l3 (n : Nat) (self : sanePt → Option Bool) (x10 x11 : Bool) : Option Bool :=
  (lineQ n 2 3 3 0 0 0 3 ([] : List Int) 0 0).bind fun y1 =>
   (becomes n y1 ([7, 7] : List Int) ([3, 3] : List Int)).bind fun y2 =>
    bif y2 then
     (lineQ n 2 3 4 0 0 0 0 ([] : List Int) 0 0).bind fun y3 =>
      (becomes n y3 ([7, 7] : List Int) ([3, 6] : List Int)).bind fun y4 =>
       self (.l4 x10 x11 y4)
    else
     self (.l4 x10 x11 false)
def sane_l4 (n : Nat) (self : sanePt → Option Bool) (x10 x11 x12 : Bool) : Option Bool :=
  (lineQ n 3 2 5 2 0 0 0 ([2] : List Int) 0 0).bind fun y1 =>
   (becomes n y1 ([3, 3, 3] : List Int) ([3, 2, 3] : List Int)).bind fun y2 =>
    bif y2 then
     (lineQ n 2 3 6 0 0 2 0 ([] : List Int) 0 0).bind fun y3 =>
      (becomes n y3 ([7, 7] : List Int) ([5, 5] : List Int)).bind fun y4 =>
       self (.l5 x10 x11 x12 y4)
    else
     self (.l5 x10 x11 x12 false)
def sane_l5 (n : Nat) (self : sanePt → Option Bool) (x10 x11 x12 x13 : Bool) : Option Bool :=
  (lineQ n 2 2 7 1 1 0 0 ([] : List Int) 0 0).bind fun y1 =>
   (becomes n y1 ([1, 3] : List Int) ([1, 2] : List Int)).bind fun y2 =>
    bif y2 then
     (lineQ n 3 2 8 2 0 0 0 ([] : List Int) 0 0).bind fun y3 =>
      (becomes n y3 ([2, 3, 2] : List Int) ([2, 2, 2] : List Int)).bind fun y4 =>
       self (.l6 x10 x11 x12 x13 y4)
    else
     self (.l6 x10 x11 x12 x13 false)
def sane_l6 (n : Nat) (self : sanePt → Option Bool) (x10 x11 x12 x13 x14 : Bool) : Option Bool :=
  (lineQ n 3 2 9 2 0 0 0 ([] : List Int) 0 0).bind fun y1 =>
   (becomes n y1 ([3, 2, 3] : List Int) ([2, 2, 2] : List Int)).bind fun y2 =>
    bif y2 then
     (lineQ n 3 2 9 2 0 0 0 ([] : List Int) 0 0).bind fun y3 =>
      (becomes n y3 ([2, 2, 2] : List Int) ([0, 0, 0] : List Int)).bind fun y4 =>
       self (.l7 x10 x11 x12 x13 x14 y4)
    else
     self (.l7 x10 x11 x12 x13 x14 false)
def sane_l7 (n : Nat) (self : sanePt → Option Bool) (x10 x11 x12 x13 x14 x15 : Bool) : Option Bool :=
  bif x10 then
   bif x11 then
    bif x12 then
     bif x13 then
      bif x14 then
       some x15
      else
       some false
     else
      some false
    else
     some false
   else
    some false
  else
   some false
def sane_l0 (n : Nat) (self : sanePt → Option Bool) : Option Bool :=
  (lineQ n 3 3 1 0 0 0 0 ([] : List Int) 0 0).bind fun y1 =>
   (lostP n y1 0 ([1, 3, 7] : List Int)).bind fun y2 =>
    (lineQ n 2 3 3 0 0 0 3 ([] : List Int) 0 0).bind fun y3 =>
     (levelP n y3 0).bind fun y4 =>
      (pruneP n y1 1 ([1, 3, 7] : List Int)).bind fun y5 =>
       (levelP n (⟨0, 0, ([] : List Int), ([] : List (List Int)), ([] : List ConsD)⟩ : ProbD) 0).bind fun y6 =>
        bif (y2.2 != 0) then
         some false
        else
         bif (y4.2 != 0) then
          some false
         else
          bif (y4.1 != 2) then
           some false
          else
           bif (y5.2 != 260) then
            some false
           else
            bif (y6.2 != 191) then
             some false
            else
             (samePairs n y2.1 ([(1, 0), (2, 0)] : List (Int × Int))).bind fun y7 =>
              bif (!y7) then
               some false
              else
               self (.l1 y1.cells y1.symbols y1.values y1.nbrs y1.cons)
def sane_m : Nat → sanePt → Option Bool
  | 0, _ => none
  | n + 1, .l1 o0_0 o0_1 o0_2 o0_3 o0_4 => sane_l1 n (sane_m n) o0_0 o0_1 o0_2 o0_3 o0_4
  | n + 1, .l2 x10 => sane_l2 n (sane_m n) x10
  | n + 1, .l3 x10 x11 => sane_l3 n (sane_m n) x10 x11
  | n + 1, .l4 x10 x11 x12 => sane_l4 n (sane_m n) x10 x11 x12
  | n + 1, .l5 x10 x11 x12 x13 => sane_l5 n (sane_m n) x10 x11 x12 x13
  | n + 1, .l6 x10 x11 x12 x13 x14 => sane_l6 n (sane_m n) x10 x11 x12 x13 x14
  | n + 1, .l7 x10 x11 x12 x13 x14 x15 => sane_l7 n (sane_m n) x10 x11 x12 x13 x14 x15
def sane (n : Nat) : Option Bool := sane_l0 n (sane_m n)
/-- What the points stand for. -/
def sane_at (n : Nat) (B : Nat) (N : Yard Tryd.prog GG 0) (r : Bool) : sanePt → Prop
  | .l1 o0_0 o0_1 o0_2 o0_3 o0_4 => TrK Tryd.prog GG Fence.wide (some B) 0 N (Fin Tryd.prog Tryd.f7 0 (.bool r) []) (atGC (bodyC Tryd.f7) 8 []) ⟨frm 155 [(1, .ref 0 0)], [some (.cells [.i o0_0, .i o0_1, .ints o0_2, .sl 1 o0_3.length (rowE intsC o0_3), .sl 9 o0_4.length (rowE consC o0_4)])]⟩
  | .l2 x10 => TrK Tryd.prog GG Fence.wide (some B) 0 N (Fin Tryd.prog Tryd.f7 0 (.bool r) []) (atGC (bodyC Tryd.f7) 9 []) ⟨frm 155 [(10, .bool x10)], []⟩
  | .l3 x10 x11 => TrK Tryd.prog GG Fence.wide (some B) 0 N (Fin Tryd.prog Tryd.f7 0 (.bool r) []) (atGC (bodyC Tryd.f7) 10 []) ⟨frm 155 [(10, .bool x10), (11, .bool x11)], []⟩
  | .l4 x10 x11 x12 => TrK Tryd.prog GG Fence.wide (some B) 0 N (Fin Tryd.prog Tryd.f7 0 (.bool r) []) (atGC (bodyC Tryd.f7) 11 []) ⟨frm 155 [(10, .bool x10), (11, .bool x11), (12, .bool x12)], []⟩
  | .l5 x10 x11 x12 x13 => TrK Tryd.prog GG Fence.wide (some B) 0 N (Fin Tryd.prog Tryd.f7 0 (.bool r) []) (atGC (bodyC Tryd.f7) 12 []) ⟨frm 155 [(10, .bool x10), (11, .bool x11), (12, .bool x12), (13, .bool x13)], []⟩
  | .l6 x10 x11 x12 x13 x14 => TrK Tryd.prog GG Fence.wide (some B) 0 N (Fin Tryd.prog Tryd.f7 0 (.bool r) []) (atGC (bodyC Tryd.f7) 13 []) ⟨frm 155 [(10, .bool x10), (11, .bool x11), (12, .bool x12), (13, .bool x13), (14, .bool x14)], []⟩
  | .l7 x10 x11 x12 x13 x14 x15 => TrK Tryd.prog GG Fence.wide (some B) 0 N (Fin Tryd.prog Tryd.f7 0 (.bool r) []) (atGC (bodyC Tryd.f7) 14 []) ⟨frm 155 [(10, .bool x10), (11, .bool x11), (12, .bool x12), (13, .bool x13), (14, .bool x14), (15, .bool x15)], []⟩
theorem sane_all (B : Nat) (N : Yard Tryd.prog GG 0) : ∀ (n : Nat) (pt : sanePt) (r : Bool), sane_m n pt = some r → sane_at n B N r pt := by
  intro n; induction n with
  | zero => intro _ _ h; cases h
  | succ n hself =>
   intro pt r h
   cases pt
   case l1 o0_0 o0_1 o0_2 o0_3 o0_4 =>
    have h : sane_l1 n (sane_m n) o0_0 o0_1 o0_2 o0_3 o0_4 = some r := h
    show TrK _ _ _ _ _ _ _ _ _
    unfold sane_l1 at h
    obtain ⟨y1, hy1, h⟩ := bindSome h
    have p := H0.c (sb [.agg 5 (L1 [.i o0_0, .i o0_1, .ints o0_2, .sl 1 o0_3.length (rowE intsC o0_3), .sl 9 o0_4.length (rowE consC o0_4)]), .msl 1 1 0 3, .msl 2 1 0 3] (becomes_ok hy1) (hp_sane_0 o0_0 o0_1 o0_2 o0_3 o0_4) ⟨Snap.plain (by kernel_rfl), Snap.ints rfl (by decide : 3 = ([1, 3, 7] : List Int).length), Snap.ints rfl (by decide : 3 = ([1, 2, 6] : List Int).length), trivial⟩)
    rcases bifSome h with ⟨c0, h⟩ | ⟨c0, h⟩
    · obtain ⟨y2, hy2, h⟩ := bindSome h
      obtain ⟨y3, hy3, h⟩ := bindSome h
      exact gg (stopAt 14 (stopAt 13 (stopAt 12 (stopAt 11 (stopAt 10 (stopAt 9 sch0)))))) [] (p.b 70 c0 |>.c (fb (ES.argsLe (ds := [.i 3, .i 2, .agg 9 (L1 [.i 2, .nils, .i 2, .i 0, .i 1, .i 1, .nils, .i 0, .i 0])]) (lineQ_ok hy2) ⟨dle_refl, dle_refl, (DLe.aggL (l := [.i 2, .nils, .i 2, .i 0, .i 1, .i 1, .nils, .i 0, .i 0]) (l' := [.i 2, .nils, .i 2, .i 0, .i 1, .i 1, .ints ([] : List Int), .i 0, .i 0]) rfl ⟨(DLe.refl _), (DLe.refl _), (DLe.refl _), (DLe.refl _), (DLe.refl _), (DLe.refl _), DLe.ints_nil, (DLe.refl _), (DLe.refl _), trivial⟩), trivial⟩) (hp_sane_0 o0_0 o0_1 o0_2 o0_3 o0_4)) |>.c (sb [.agg 5 (L1 (probC y2)), .msl 3 1 0 3, .msl 4 1 0 3] (becomes_ok hy3) (hp_sane_1 o0_0 o0_1 o0_2 o0_3 o0_4) ⟨Snap.plain (by kernel_rfl), Snap.ints rfl (by decide : 3 = ([2, 3, 3] : List Int).length), Snap.ints rfl (by decide : 3 = ([2, 1, 1] : List Int).length), trivial⟩)) (hself _ _ h)
    · exact gg (stopAt 14 (stopAt 13 (stopAt 12 (stopAt 11 (stopAt 10 (stopAt 9 sch0)))))) [] (p.b 70 c0) (hself _ _ h)
   case l2 x10 =>
    have h : sane_l2 n (sane_m n) x10 = some r := h
    show TrK _ _ _ _ _ _ _ _ _
    unfold sane_l2 at h
    obtain ⟨y1, hy1, h⟩ := bindSome h
    obtain ⟨y2, hy2, h⟩ := bindSome h
    have p := H0.c (fb (ES.argsLe (ds := [.i 3, .i 2, .agg 9 (L1 [.i 2, .nils, .i 2, .i 0, .i 2, .i 3, .nils, .i 0, .i 0])]) (lineQ_ok hy1) ⟨dle_refl, dle_refl, (DLe.aggL (l := [.i 2, .nils, .i 2, .i 0, .i 2, .i 3, .nils, .i 0, .i 0]) (l' := [.i 2, .nils, .i 2, .i 0, .i 2, .i 3, .ints ([] : List Int), .i 0, .i 0]) rfl ⟨(DLe.refl _), (DLe.refl _), (DLe.refl _), (DLe.refl _), (DLe.refl _), (DLe.refl _), DLe.ints_nil, (DLe.refl _), (DLe.refl _), trivial⟩), trivial⟩) []) |>.c (sb [.agg 5 (L1 (probC y1)), .msl 0 1 0 3, .msl 1 1 0 3] (becomes_ok hy2) [some (.ints ([1, 3, 3] : List Int)), some (.ints ([1, 2, 2] : List Int))] ⟨Snap.plain (by kernel_rfl), Snap.ints rfl (by decide : 3 = ([1, 3, 3] : List Int).length), Snap.ints rfl (by decide : 3 = ([1, 2, 2] : List Int).length), trivial⟩)
    rcases bifSome h with ⟨c0, h⟩ | ⟨c0, h⟩
    · obtain ⟨y3, hy3, h⟩ := bindSome h
      obtain ⟨y4, hy4, h⟩ := bindSome h
      exact gg (stopAt 14 (stopAt 13 (stopAt 12 (stopAt 11 (stopAt 10 (stopAt 8 sch0)))))) [] (p.b 82 c0 |>.c (fb (ES.argsLe (ds := [.i 3, .i 2, .agg 9 (L1 [.i 2, .nils, .i 2, .i 0, .i 0, .i 1, .nils, .i 0, .i 0])]) (lineQ_ok hy3) ⟨dle_refl, dle_refl, (DLe.aggL (l := [.i 2, .nils, .i 2, .i 0, .i 0, .i 1, .nils, .i 0, .i 0]) (l' := [.i 2, .nils, .i 2, .i 0, .i 0, .i 1, .ints ([] : List Int), .i 0, .i 0]) rfl ⟨(DLe.refl _), (DLe.refl _), (DLe.refl _), (DLe.refl _), (DLe.refl _), (DLe.refl _), DLe.ints_nil, (DLe.refl _), (DLe.refl _), trivial⟩), trivial⟩) [some (.ints ([1, 3, 3] : List Int)), some (.ints ([1, 2, 2] : List Int))]) |>.c (sb [.agg 5 (L1 (probC y3)), .msl 2 1 0 3, .msl 3 1 0 3] (becomes_ok hy4) hp_sane_2 ⟨Snap.plain (by kernel_rfl), Snap.ints rfl (by decide : 3 = ([2, 2, 3] : List Int).length), Snap.ints rfl (by decide : 3 = ([0, 0, 0] : List Int).length), trivial⟩)) (hself _ _ h)
    · exact gg (stopAt 14 (stopAt 13 (stopAt 12 (stopAt 11 (stopAt 10 (stopAt 8 sch0)))))) [] (p.b 82 c0) (hself _ _ h)
   case l3 x10 x11 =>
    have h : sane_l3 n (sane_m n) x10 x11 = some r := h
    show TrK _ _ _ _ _ _ _ _ _
    unfold sane_l3 at h
    obtain ⟨y1, hy1, h⟩ := bindSome h
    obtain ⟨y2, hy2, h⟩ := bindSome h
    have p := H0.c (fb (ES.argsLe (ds := [.i 2, .i 3, .agg 9 (L1 [.i 3, .nils, .i 0, .i 0, .i 0, .i 3, .nils, .i 0, .i 0])]) (lineQ_ok hy1) ⟨dle_refl, dle_refl, (DLe.aggL (l := [.i 3, .nils, .i 0, .i 0, .i 0, .i 3, .nils, .i 0, .i 0]) (l' := [.i 3, .nils, .i 0, .i 0, .i 0, .i 3, .ints ([] : List Int), .i 0, .i 0]) rfl ⟨(DLe.refl _), (DLe.refl _), (DLe.refl _), (DLe.refl _), (DLe.refl _), (DLe.refl _), DLe.ints_nil, (DLe.refl _), (DLe.refl _), trivial⟩), trivial⟩) []) |>.c (sb [.agg 5 (L1 (probC y1)), .msl 0 1 0 2, .msl 1 1 0 2] (becomes_ok hy2) [some (.ints ([7, 7] : List Int)), some (.ints ([3, 3] : List Int))] ⟨Snap.plain (by kernel_rfl), Snap.ints rfl (by decide : 2 = ([7, 7] : List Int).length), Snap.ints rfl (by decide : 2 = ([3, 3] : List Int).length), trivial⟩)
    rcases bifSome h with ⟨c0, h⟩ | ⟨c0, h⟩
    · obtain ⟨y3, hy3, h⟩ := bindSome h
      obtain ⟨y4, hy4, h⟩ := bindSome h
      exact gg (stopAt 14 (stopAt 13 (stopAt 12 (stopAt 11 (stopAt 9 (stopAt 8 sch0)))))) [] (p.b 94 c0 |>.c (fb (ES.argsLe (ds := [.i 2, .i 3, .agg 9 (L1 [.i 4, .nils, .i 0, .i 0, .i 0, .i 0, .nils, .i 0, .i 0])]) (lineQ_ok hy3) ⟨dle_refl, dle_refl, (DLe.aggL (l := [.i 4, .nils, .i 0, .i 0, .i 0, .i 0, .nils, .i 0, .i 0]) (l' := [.i 4, .nils, .i 0, .i 0, .i 0, .i 0, .ints ([] : List Int), .i 0, .i 0]) rfl ⟨(DLe.refl _), (DLe.refl _), (DLe.refl _), (DLe.refl _), (DLe.refl _), (DLe.refl _), DLe.ints_nil, (DLe.refl _), (DLe.refl _), trivial⟩), trivial⟩) [some (.ints ([7, 7] : List Int)), some (.ints ([3, 3] : List Int))]) |>.c (sb [.agg 5 (L1 (probC y3)), .msl 2 1 0 2, .msl 3 1 0 2] (becomes_ok hy4) hp_sane_3 ⟨Snap.plain (by kernel_rfl), Snap.ints rfl (by decide : 2 = ([7, 7] : List Int).length), Snap.ints rfl (by decide : 2 = ([3, 6] : List Int).length), trivial⟩)) (hself _ _ h)
    · exact gg (stopAt 14 (stopAt 13 (stopAt 12 (stopAt 11 (stopAt 9 (stopAt 8 sch0)))))) [] (p.b 94 c0) (hself _ _ h)
   case l4 x10 x11 x12 =>
    have h : sane_l4 n (sane_m n) x10 x11 x12 = some r := h
    show TrK _ _ _ _ _ _ _ _ _
    unfold sane_l4 at h
    obtain ⟨y1, hy1, h⟩ := bindSome h
    obtain ⟨y2, hy2, h⟩ := bindSome h
    have p := H0.z 102 0 |>.g (by decide : 1 = ([2] : List Int).length) |>.c (fb (lineQ_ok hy1) [none]) |>.c (sb [.agg 5 (L1 (probC y1)), .msl 1 1 0 3, .msl 2 1 0 3] (becomes_ok hy2) [none, some (.ints ([3, 3, 3] : List Int)), some (.ints ([3, 2, 3] : List Int))] ⟨Snap.plain (by kernel_rfl), Snap.ints rfl (by decide : 3 = ([3, 3, 3] : List Int).length), Snap.ints rfl (by decide : 3 = ([3, 2, 3] : List Int).length), trivial⟩)
    rcases bifSome h with ⟨c0, h⟩ | ⟨c0, h⟩
    · obtain ⟨y3, hy3, h⟩ := bindSome h
      obtain ⟨y4, hy4, h⟩ := bindSome h
      exact gg (stopAt 14 (stopAt 13 (stopAt 12 (stopAt 10 (stopAt 9 (stopAt 8 sch0)))))) [] (p.b 107 c0 |>.c (fb (ES.argsLe (ds := [.i 2, .i 3, .agg 9 (L1 [.i 6, .nils, .i 0, .i 0, .i 2, .i 0, .nils, .i 0, .i 0])]) (lineQ_ok hy3) ⟨dle_refl, dle_refl, (DLe.aggL (l := [.i 6, .nils, .i 0, .i 0, .i 2, .i 0, .nils, .i 0, .i 0]) (l' := [.i 6, .nils, .i 0, .i 0, .i 2, .i 0, .ints ([] : List Int), .i 0, .i 0]) rfl ⟨(DLe.refl _), (DLe.refl _), (DLe.refl _), (DLe.refl _), (DLe.refl _), (DLe.refl _), DLe.ints_nil, (DLe.refl _), (DLe.refl _), trivial⟩), trivial⟩) [none, some (.ints ([3, 3, 3] : List Int)), some (.ints ([3, 2, 3] : List Int))]) |>.c (sb [.agg 5 (L1 (probC y3)), .msl 3 1 0 2, .msl 4 1 0 2] (becomes_ok hy4) hp_sane_4 ⟨Snap.plain (by kernel_rfl), Snap.ints rfl (by decide : 2 = ([7, 7] : List Int).length), Snap.ints rfl (by decide : 2 = ([5, 5] : List Int).length), trivial⟩)) (hself _ _ h)
    · exact gg (stopAt 14 (stopAt 13 (stopAt 12 (stopAt 10 (stopAt 9 (stopAt 8 sch0)))))) [] (p.b 107 c0) (hself _ _ h)
   case l5 x10 x11 x12 x13 =>
    have h : sane_l5 n (sane_m n) x10 x11 x12 x13 = some r := h
    show TrK _ _ _ _ _ _ _ _ _
    unfold sane_l5 at h
    obtain ⟨y1, hy1, h⟩ := bindSome h
    obtain ⟨y2, hy2, h⟩ := bindSome h
    have p := H0.c (fb (ES.argsLe (ds := [.i 2, .i 2, .agg 9 (L1 [.i 7, .nils, .i 1, .i 1, .i 0, .i 0, .nils, .i 0, .i 0])]) (lineQ_ok hy1) ⟨dle_refl, dle_refl, (DLe.aggL (l := [.i 7, .nils, .i 1, .i 1, .i 0, .i 0, .nils, .i 0, .i 0]) (l' := [.i 7, .nils, .i 1, .i 1, .i 0, .i 0, .ints ([] : List Int), .i 0, .i 0]) rfl ⟨(DLe.refl _), (DLe.refl _), (DLe.refl _), (DLe.refl _), (DLe.refl _), (DLe.refl _), DLe.ints_nil, (DLe.refl _), (DLe.refl _), trivial⟩), trivial⟩) []) |>.c (sb [.agg 5 (L1 (probC y1)), .msl 0 1 0 2, .msl 1 1 0 2] (becomes_ok hy2) [some (.ints ([1, 3] : List Int)), some (.ints ([1, 2] : List Int))] ⟨Snap.plain (by kernel_rfl), Snap.ints rfl (by decide : 2 = ([1, 3] : List Int).length), Snap.ints rfl (by decide : 2 = ([1, 2] : List Int).length), trivial⟩)
    rcases bifSome h with ⟨c0, h⟩ | ⟨c0, h⟩
    · obtain ⟨y3, hy3, h⟩ := bindSome h
      obtain ⟨y4, hy4, h⟩ := bindSome h
      exact gg (stopAt 14 (stopAt 13 (stopAt 11 (stopAt 10 (stopAt 9 (stopAt 8 sch0)))))) [] (p.b 119 c0 |>.c (fb (ES.argsLe (ds := [.i 3, .i 2, .agg 9 (L1 [.i 8, .nils, .i 2, .i 0, .i 0, .i 0, .nils, .i 0, .i 0])]) (lineQ_ok hy3) ⟨dle_refl, dle_refl, (DLe.aggL (l := [.i 8, .nils, .i 2, .i 0, .i 0, .i 0, .nils, .i 0, .i 0]) (l' := [.i 8, .nils, .i 2, .i 0, .i 0, .i 0, .ints ([] : List Int), .i 0, .i 0]) rfl ⟨(DLe.refl _), (DLe.refl _), (DLe.refl _), (DLe.refl _), (DLe.refl _), (DLe.refl _), DLe.ints_nil, (DLe.refl _), (DLe.refl _), trivial⟩), trivial⟩) [some (.ints ([1, 3] : List Int)), some (.ints ([1, 2] : List Int))]) |>.c (sb [.agg 5 (L1 (probC y3)), .msl 2 1 0 3, .msl 3 1 0 3] (becomes_ok hy4) hp_sane_5 ⟨Snap.plain (by kernel_rfl), Snap.ints rfl (by decide : 3 = ([2, 3, 2] : List Int).length), Snap.ints rfl (by decide : 3 = ([2, 2, 2] : List Int).length), trivial⟩)) (hself _ _ h)
    · exact gg (stopAt 14 (stopAt 13 (stopAt 11 (stopAt 10 (stopAt 9 (stopAt 8 sch0)))))) [] (p.b 119 c0) (hself _ _ h)
   case l6 x10 x11 x12 x13 x14 =>
    have h : sane_l6 n (sane_m n) x10 x11 x12 x13 x14 = some r := h
    show TrK _ _ _ _ _ _ _ _ _
    unfold sane_l6 at h
    obtain ⟨y1, hy1, h⟩ := bindSome h
    obtain ⟨y2, hy2, h⟩ := bindSome h
    have p := H0.c (fb (ES.argsLe (ds := [.i 3, .i 2, .agg 9 (L1 [.i 9, .nils, .i 2, .i 0, .i 0, .i 0, .nils, .i 0, .i 0])]) (lineQ_ok hy1) ⟨dle_refl, dle_refl, (DLe.aggL (l := [.i 9, .nils, .i 2, .i 0, .i 0, .i 0, .nils, .i 0, .i 0]) (l' := [.i 9, .nils, .i 2, .i 0, .i 0, .i 0, .ints ([] : List Int), .i 0, .i 0]) rfl ⟨(DLe.refl _), (DLe.refl _), (DLe.refl _), (DLe.refl _), (DLe.refl _), (DLe.refl _), DLe.ints_nil, (DLe.refl _), (DLe.refl _), trivial⟩), trivial⟩) []) |>.c (sb [.agg 5 (L1 (probC y1)), .msl 0 1 0 3, .msl 1 1 0 3] (becomes_ok hy2) [some (.ints ([3, 2, 3] : List Int)), some (.ints ([2, 2, 2] : List Int))] ⟨Snap.plain (by kernel_rfl), Snap.ints rfl (by decide : 3 = ([3, 2, 3] : List Int).length), Snap.ints rfl (by decide : 3 = ([2, 2, 2] : List Int).length), trivial⟩)
    rcases bifSome h with ⟨c0, h⟩ | ⟨c0, h⟩
    · obtain ⟨y3, hy3, h⟩ := bindSome h
      obtain ⟨y4, hy4, h⟩ := bindSome h
      exact gg (stopAt 14 (stopAt 12 (stopAt 11 (stopAt 10 (stopAt 9 (stopAt 8 sch0)))))) [] (p.b 131 c0 |>.c (fb (ES.argsLe (ds := [.i 3, .i 2, .agg 9 (L1 [.i 9, .nils, .i 2, .i 0, .i 0, .i 0, .nils, .i 0, .i 0])]) (lineQ_ok hy3) ⟨dle_refl, dle_refl, (DLe.aggL (l := [.i 9, .nils, .i 2, .i 0, .i 0, .i 0, .nils, .i 0, .i 0]) (l' := [.i 9, .nils, .i 2, .i 0, .i 0, .i 0, .ints ([] : List Int), .i 0, .i 0]) rfl ⟨(DLe.refl _), (DLe.refl _), (DLe.refl _), (DLe.refl _), (DLe.refl _), (DLe.refl _), DLe.ints_nil, (DLe.refl _), (DLe.refl _), trivial⟩), trivial⟩) [some (.ints ([3, 2, 3] : List Int)), some (.ints ([2, 2, 2] : List Int))]) |>.c (sb [.agg 5 (L1 (probC y3)), .msl 2 1 0 3, .msl 3 1 0 3] (becomes_ok hy4) hp_sane_6 ⟨Snap.plain (by kernel_rfl), Snap.ints rfl (by decide : 3 = ([2, 2, 2] : List Int).length), Snap.ints rfl (by decide : 3 = ([0, 0, 0] : List Int).length), trivial⟩)) (hself _ _ h)
    · exact gg (stopAt 14 (stopAt 12 (stopAt 11 (stopAt 10 (stopAt 9 (stopAt 8 sch0)))))) [] (p.b 131 c0) (hself _ _ h)
   case l7 x10 x11 x12 x13 x14 x15 =>
    have h : sane_l7 n (sane_m n) x10 x11 x12 x13 x14 x15 = some r := h
    show TrK _ _ _ _ _ _ _ _ _
    unfold sane_l7 at h
    rcases bifSome h with ⟨c0, h⟩ | ⟨c0, h⟩
    · have p := H0.b 139 c0
      rcases bifSome h with ⟨c1, h⟩ | ⟨c1, h⟩
      · have p := p.b 141 c1
        rcases bifSome h with ⟨c2, h⟩ | ⟨c2, h⟩
        · have p := p.b 144 c2
          rcases bifSome h with ⟨c3, h⟩ | ⟨c3, h⟩
          · have p := p.b 147 c3
            rcases bifSome h with ⟨c4, h⟩ | ⟨c4, h⟩
            · obtain rfl := Option.some.inj h
              exact ee (stopAt 13 (stopAt 12 (stopAt 11 (stopAt 10 (stopAt 9 (stopAt 8 sch0)))))) [0] [] (p.b 150 c4)
            · obtain rfl := Option.some.inj h
              exact ee (stopAt 13 (stopAt 12 (stopAt 11 (stopAt 10 (stopAt 9 (stopAt 8 sch0)))))) [0] [] (p.b 150 c4)
          · obtain rfl := Option.some.inj h
            exact ee (stopAt 13 (stopAt 12 (stopAt 11 (stopAt 10 (stopAt 9 (stopAt 8 sch0)))))) [0] [] (p.b 147 c3)
        · obtain rfl := Option.some.inj h
          exact ee (stopAt 13 (stopAt 12 (stopAt 11 (stopAt 10 (stopAt 9 (stopAt 8 sch0)))))) [0] [] (p.b 144 c2)
      · obtain rfl := Option.some.inj h
        exact ee (stopAt 13 (stopAt 12 (stopAt 11 (stopAt 10 (stopAt 9 (stopAt 8 sch0)))))) [0] [] (p.b 141 c1)
    · obtain rfl := Option.some.inj h
      exact ee (stopAt 13 (stopAt 12 (stopAt 11 (stopAt 10 (stopAt 9 (stopAt 8 sch0)))))) [0] [] (H0.b 139 c0)
theorem sane_ok {n : Nat} {r : Bool} (h : sane n = some r) : ES Tryd.prog GG 7 [] [] (.bool r) [] true := by
  refine ot Tryd.func7 fun B N => ?_
  have hself := sane_all B N n
  unfold sane at h
  unfold sane_l0 at h
  obtain ⟨y1, hy1, h⟩ := bindSome h
  obtain ⟨y2, hy2, h⟩ := bindSome h
  obtain ⟨y3, hy3, h⟩ := bindSome h
  obtain ⟨y4, hy4, h⟩ := bindSome h
  obtain ⟨y5, hy5, h⟩ := bindSome h
  obtain ⟨y6, hy6, h⟩ := bindSome h
  have p := H0.c (fb (ES.argsLe (ds := [.i 3, .i 3, .agg 9 (L1 [.i 1, .nils, .i 0, .i 0, .i 0, .i 0, .nils, .i 0, .i 0])]) (lineQ_ok hy1) ⟨dle_refl, dle_refl, (DLe.aggL (l := [.i 1, .nils, .i 0, .i 0, .i 0, .i 0, .nils, .i 0, .i 0]) (l' := [.i 1, .nils, .i 0, .i 0, .i 0, .i 0, .ints ([] : List Int), .i 0, .i 0]) rfl ⟨(DLe.refl _), (DLe.refl _), (DLe.refl _), (DLe.refl _), (DLe.refl _), (DLe.refl _), DLe.ints_nil, (DLe.refl _), (DLe.refl _), trivial⟩), trivial⟩) []) |>.t |>.z 20 1 |>.g (by decide : 3 = ([1, 3, 7] : List Int).length) |>.c (fb (lostP_ok hy2) [some (.cells (probC y1)), none]) |>.c (fb (ES.argsLe (ds := [.i 2, .i 3, .agg 9 (L1 [.i 3, .nils, .i 0, .i 0, .i 0, .i 3, .nils, .i 0, .i 0])]) (lineQ_ok hy3) ⟨dle_refl, dle_refl, (DLe.aggL (l := [.i 3, .nils, .i 0, .i 0, .i 0, .i 3, .nils, .i 0, .i 0]) (l' := [.i 3, .nils, .i 0, .i 0, .i 0, .i 3, .ints ([] : List Int), .i 0, .i 0]) rfl ⟨(DLe.refl _), (DLe.refl _), (DLe.refl _), (DLe.refl _), (DLe.refl _), (DLe.refl _), DLe.ints_nil, (DLe.refl _), (DLe.refl _), trivial⟩), trivial⟩) [some (.cells (probC y1)), none]) |>.c (fb (levelP_ok hy4) [some (.cells (probC y1)), none]) |>.z 32 2 |>.g (by decide : 3 = ([1, 3, 7] : List Int).length) |>.c (fb (pruneP_ok hy5) [some (.cells (probC y1)), none, none]) |>.c (sb [.agg 5 (L1 [.i 0, .i 0, .nils, .nils, .nils]), .i 0] (levelP_ok hy6) [some (.cells (probC y1)), none, none] ⟨(Snap.dle (by kernel_rfl) (DLe.aggL (l := [.i 0, .i 0, .nils, .nils, .nils]) (l' := [.i 0, .i 0, .ints ([] : List Int), .sl 1 (([] : List (List Int)).length) (rowE intsC ([] : List (List Int))), .sl 9 (([] : List ConsD).length) (rowE consC ([] : List ConsD))]) rfl ⟨(DLe.refl _), (DLe.refl _), DLe.ints_nil, (DLe.sl_nil _ _), (DLe.sl_nil _ _), trivial⟩)), Snap.plain (by kernel_rfl), trivial⟩)
  rcases bifSome h with ⟨c0, h⟩ | ⟨c0, h⟩
  · obtain rfl := Option.some.inj h
    exact ee (stopAt 14 (stopAt 13 (stopAt 12 (stopAt 11 (stopAt 10 (stopAt 9 (stopAt 8 sch0))))))) [0] [] (p.b 42 c0)
  · have p := p.b 42 c0
    rcases bifSome h with ⟨c1, h⟩ | ⟨c1, h⟩
    · obtain rfl := Option.some.inj h
      exact ee (stopAt 14 (stopAt 13 (stopAt 12 (stopAt 11 (stopAt 10 (stopAt 9 (stopAt 8 sch0))))))) [0] [] (p.b 45 c1)
    · have p := p.b 45 c1
      rcases bifSome h with ⟨c2, h⟩ | ⟨c2, h⟩
      · obtain rfl := Option.some.inj h
        exact ee (stopAt 14 (stopAt 13 (stopAt 12 (stopAt 11 (stopAt 10 (stopAt 9 (stopAt 8 sch0))))))) [0] [] (p.b 49 c2)
      · have p := p.b 49 c2
        rcases bifSome h with ⟨c3, h⟩ | ⟨c3, h⟩
        · obtain rfl := Option.some.inj h
          exact ee (stopAt 14 (stopAt 13 (stopAt 12 (stopAt 11 (stopAt 10 (stopAt 9 (stopAt 8 sch0))))))) [0] [] (p.b 53 c3)
        · have p := p.b 53 c3
          rcases bifSome h with ⟨c4, h⟩ | ⟨c4, h⟩
          · obtain rfl := Option.some.inj h
            exact ee (stopAt 14 (stopAt 13 (stopAt 12 (stopAt 11 (stopAt 10 (stopAt 9 (stopAt 8 sch0))))))) [0] [] (p.b 57 c4)
          · obtain ⟨y7, hy7, h⟩ := bindSome h
            have p := p.b 57 c4 |>.a 63 3 2 (rows_build (c := iiC) (L := ([(1, 0), (2, 0)] : List (Int × Int))) (vals := [.agg 2 (L1 [.i 1, .i 0]), .agg 2 (L1 [.i 2, .i 0])]) rfl ⟨⟨_, rfl, ⟨dle_refl, dle_refl, trivial⟩⟩, ⟨_, rfl, ⟨dle_refl, dle_refl, trivial⟩⟩, trivial⟩) |>.z 63 3 |>.g (by decide : 2 = ([(1, 0), (2, 0)] : List (Int × Int)).length) |>.c (fb (samePairs_ok hy7) [some (.cells (probC y1)), none, none, none])
            rcases bifSome h with ⟨c5, h⟩ | ⟨c5, h⟩
            · obtain rfl := Option.some.inj h
              exact ee (stopAt 14 (stopAt 13 (stopAt 12 (stopAt 11 (stopAt 10 (stopAt 9 (stopAt 8 sch0))))))) [0] [] (p.b 65 c5)
            · exact gg (stopAt 14 (stopAt 13 (stopAt 12 (stopAt 11 (stopAt 10 (stopAt 9 (stopAt 8 sch0))))))) [0] (p.b 65 c5) (hself _ _ h)
end Go.Proofs.YtekkngkphejfcaaDoor
namespace Go.Proofs.YtekkngkphejfcaaDoor
open Go.ChangeShapes Go.WideShapes Go.ChangeAt Go.RowKit
/-- Cells stand for values of the view. -/
def CellsR (w : World) (cs : List Value) (l : List DV) : Prop := cs.length = l.length ∧ ∀ j, j < l.length → RepV (fun _ => False) w (l.getD j .any) [] (cs.getD j undef)
/-- Whatever reads as data of a type, in m cells, stands for some element. -/
def Rd (P : Program) (t : TypeId) (m : Nat) {α : Type} (c : α → List DV) : Prop := (∀ x, (c x).length = m) ∧ P.cellsOf t = m ∧ ∀ {H : Type} (enc : TypeId × Value → H) (w : World) (fuel : Nat) (cs : List Value) (x : DataW H × List MemPlace), DataW.trod enc P w 0 (fun _ => true) true fuel t cs = some x → (∀ n ∈ x.1.weights P t, n ≤ reachBytes) → ∃ y : α, CellsR w cs (c y)
theorem weights_all {H : Type} {P : Program} {e : TypeId} : ∀ {l : List (DataW H)} {d : DataW H} {n : Nat}, d ∈ l → n ∈ d.weights P e → n ∈ DataW.weightsAll P e l
  | [], _, _, h, _ => by cases h
  | a :: l, d, n, h, hn => by
    unfold DataW.weightsAll
    rcases List.mem_cons.1 h with rfl | h
    · exact List.mem_append_left _ hn
    · exact List.mem_append_right _ (weights_all h hn)
section
variable {P : Program} {t e : TypeId} {m : Nat}
theorem CellsR.one {w : World} {v : Value} {d : DV} (h : RepV (fun _ => False) w d [] v) : CellsR w [v] [d] := ⟨rfl, fun j hj => by
  have : j = 0 := by simpa using hj
  subst this; exact h⟩
theorem CellsR.app {w : World} {cs cs' : List Value} {l l' : List DV} (h : CellsR w cs l) (h' : CellsR w cs' l') : CellsR w (cs ++ cs') (l ++ l') := by
  refine ⟨by simp [h.1, h'.1], fun j hj => ?_⟩
  rcases Nat.lt_or_ge j l.length with hl | hl
  · have := h.2 j hl
    have hc : j < cs.length := by rw [h.1]; exact hl
    simp only [List.getD_eq_getElem?_getD] at this ⊢
    rw [List.getElem?_append_left hl, List.getElem?_append_left hc]; exact this
  · have := h'.2 (j - l.length) (by simp at hj; omega)
    simp only [List.getD_eq_getElem?_getD] at this ⊢
    rw [List.getElem?_append_right hl, List.getElem?_append_right (by rw [h.1]; exact hl), h.1]; exact this
theorem Rd.int {k : IntKind} (ht : P.underlying t = some (.int k)) (hc : P.cellsOf t = 1) : Rd P t 1 (fun n : Int => [.int k n]) := ⟨fun _ => rfl, hc, fun enc w fuel cs x h hw => by
  obtain ⟨n, rfl, _⟩ := DataW.trod_int ht h
  exact ⟨n, .one rfl⟩⟩
theorem cells_at {w : World} {a : Addr} {n : Nat} {cs : List Value} (h : w.cells? 0 a n = some cs) : cs.length = n ∧ ∀ j, j < n → w.cell? (a.add j) = some (cs.getD j undef) := by
  unfold World.cells? at h
  rw [if_pos (Nat.zero_le _)] at h
  have hl : cs.length = n := by simpa using Lib.mapM_length h
  refine ⟨hl, fun j hj => ?_⟩
  obtain ⟨b, h1, h2⟩ := Lib.mapM_at h j j (by simp [hj])
  rw [h2, List.getD_eq_getElem?_getD, h1]; rfl
theorem addr_plain {w : World} {a : Addr} {v : Value} (h : w.cell? a = some v) : ∃ b o, a = ⟨b, o, none⟩ := by
  obtain ⟨b, o, r⟩ := a
  cases r with
  | none => exact ⟨b, o, rfl⟩
  | some r =>
    unfold World.cell? at h
    split at h
    · simp at h
    · cases h
theorem add_plain (b o x : Nat) : (⟨b, o, none⟩ : Addr).add x = ⟨b, o + x, none⟩ := by
  unfold Addr.add
  split
  · rename_i e; subst e; rfl
  · rfl
/-- A slice of elements that can be read. -/
theorem Rd.row {α : Type} [Inhabited α] {c : α → List DV} (ht : P.underlying t = some (.slice e)) (hb : 0 < P.bytesOf e) (hm : 0 < m) (he : Rd P e m c) {H : Type} (enc : TypeId × Value → H) (w : World) (fuel : Nat) (cs : List Value) (x : DataW H × List MemPlace) (h : DataW.trod enc P w 0 (fun _ => true) true fuel t cs = some x) (hw : ∀ n ∈ x.1.weights P t, n ≤ reachBytes) :
    ∃ (L : List α) (a : Option Addr) (cap : Nat), cs = [.slice a L.length cap] ∧ L.length ≤ cap ∧ L.length ≤ LB ∧ ∀ i j, i < L.length → j < m → ∃ b o u, a = some ⟨b, o, none⟩ ∧ w.cell? ⟨b, o + (i * m + j), none⟩ = some u ∧ RepV (fun _ => False) w ((c (L.getD i default)).getD j .any) [] u := by
  rcases Deep.open_slice ht h with ⟨rfl, _⟩ | ⟨a, len, cap, m', n, D, Pl, rfl, _, hlc, hcap, hm', hx, hel⟩
  · exact ⟨[], none, 0, rfl, Nat.le_refl _, Nat.zero_le _, fun i j hi => absurd hi (Nat.not_lt_zero i)⟩
  · simp only [if_true] at hm'
    subst hm'
    subst hx
    have plain : 0 < len → ∃ b o, a = ⟨b, o, none⟩ := fun h0 => by
      obtain ⟨cs', h1, _⟩ := hel 0 (by omega)
      obtain ⟨g1, g2⟩ := cells_at h1
      have g3 := g2 0 (by rw [he.2.1]; exact hm)
      have e0 : (a.add (0 * P.cellsOf e)).add 0 = a := by simp [Addr.add]
      rw [e0] at g3
      exact addr_plain g3
    have pick : ∀ i, i < len → ∃ y : α, ∀ j, j < m → ∃ b o u, a = ⟨b, o, none⟩ ∧ w.cell? ⟨b, o + (i * m + j), none⟩ = some u ∧ RepV (fun _ => False) w ((c y).getD j .any) [] u := fun i hi => by
      obtain ⟨cs', h1, h2⟩ := hel i (by omega)
      obtain ⟨y, h3, h4⟩ := he.2.2 enc w n cs' _ h2 fun k hk => hw k (by
        simp only [DataW.weights, ht]
        refine List.mem_cons_of_mem _ (List.mem_append_left _ (weights_all (d := D i) ?_ hk))
        exact List.mem_map.2 ⟨i, List.mem_range.2 hi, rfl⟩)
      obtain ⟨g1, g2⟩ := cells_at h1
      obtain ⟨b, o, rfl⟩ := plain (by omega)
      refine ⟨y, fun j hj => ?_⟩
      have g3 := g2 j (by rw [he.2.1]; exact hj)
      refine ⟨b, o, _, rfl, ?_, h4 j (by rw [he.1]; exact hj)⟩
      rw [← g3, he.2.1, add_plain, add_plain, Nat.add_assoc]
    have hL : ∃ L : List α, L.length = len ∧ ∀ i, i < len → ∀ j, j < m → ∃ b o u, a = ⟨b, o, none⟩ ∧ w.cell? ⟨b, o + (i * m + j), none⟩ = some u ∧ RepV (fun _ => False) w ((c (L.getD i default)).getD j .any) [] u := by
      refine ⟨(List.range len).map fun i => if hi : i < len then (pick i hi).choose else default, by simp, fun i hi => ?_⟩
      have : ((List.range len).map fun i => if hi : i < len then (pick i hi).choose else default).getD i default = (pick i hi).choose := by
        simp [List.getD_eq_getElem?_getD, hi]
      rw [this]
      exact (pick i hi).choose_spec
    obtain ⟨L, rfl, hL⟩ := hL
    refine ⟨L, some a, _, rfl, hlc, ?_, fun i j hi hj => ?_⟩
    · have hk := hw ((L.length + (m' - L.length)) * P.bytesOf e) (by
        simp only [DataW.weights, ht, List.length_map, List.length_range]
        exact List.mem_cons_self)
      have h1 := Nat.le_mul_of_pos_right (L.length + (m' - L.length)) hb
      have h2 := Nat.le_trans h1 hk
      unfold reachBytes at h2
      unfold LB
      omega
    · obtain ⟨b, o, u, g1, g2, g3⟩ := hL i hi j hj
      exact ⟨b, o, u, by rw [g1], g2, g3⟩
theorem Rd.rows {α : Type} [Inhabited α] {c : α → List DV} (ht : P.underlying t = some (.slice e)) (hc : P.cellsOf t = 1) (hb : 0 < P.bytesOf e) (hm : 0 < m) (he : Rd P e m c) : Rd P t 1 (fun L : List α => [.sl m L.length (rowE c L)]) := ⟨fun _ => rfl, hc, fun enc w fuel cs x h hw => by
  obtain ⟨L, a, cap, rfl, h1, h2, h3⟩ := Rd.row ht hb hm he enc w fuel cs x h hw
  refine ⟨L, CellsR.one ⟨a, cap, rfl, h1, h2, fun i j hi hj => ?_⟩⟩
  obtain ⟨b, o, u, g1, g2, g3⟩ := h3 i j hi hj
  exact ⟨b, o, u, g1, fun h => h, g2, g3⟩⟩
theorem Rd.ints (ht : P.underlying t = some (.slice e)) (hc : P.cellsOf t = 1) (hb : 0 < P.bytesOf e) (he : P.underlying e = some (.int .i64)) (hce : P.cellsOf e = 1) : Rd P t 1 intsC := ⟨fun _ => rfl, hc, fun enc w fuel cs x h hw => by
  obtain ⟨L, a, cap, rfl, h1, h2, h3⟩ := Rd.row ht hb (Nat.zero_lt_one) (Rd.int he hce) enc w fuel cs x h hw
  refine ⟨L, .one ⟨a, cap, rfl, h1, h2, fun j hj => ?_⟩⟩
  obtain ⟨b, o, u, g1, g2, g3⟩ := h3 j 0 hj Nat.zero_lt_one
  refine ⟨b, o, g1, fun h => h, ?_⟩
  have : u = .int .i64 (L.getD j 0) := g3
  rw [← this, ← g2]; simp⟩
/-- The fields of a struct, from a place on. -/
def RdFs (P : Program) : List Field → Nat → Nat → {α : Type} → (α → List DV) → Prop := fun fs o n {α} c => ∀ (H : Type) (enc : TypeId × Value → H) (w : World) (fuel : Nat) (cs : List Value) (xs : List (DataW H × List MemPlace)), cs.length = n → (fs.mapM fun f => DataW.trod enc P w 0 (fun _ => true) true fuel f.type ((cs.drop f.offset).take (P.cellsOf f.type))) = some xs → (∀ k ∈ DataW.weightsEach P (fs.map (·.type)) (xs.map (·.1)), k ≤ reachBytes) → ∃ y : α, CellsR w (cs.drop o) (c y)
theorem RdFs.nil {o n : Nat} (ho : n = o) : RdFs P [] o n (fun _ : Unit => []) := fun _ enc w fuel cs xs hl _ _ => ⟨(), by rw [List.drop_of_length_le (by omega)]; exact ⟨rfl, fun j hj => absurd hj (Nat.not_lt_zero j)⟩⟩
theorem RdFs.cons {α β : Type} {c : α → List DV} {c' : β → List DV} {f : Field} {fs : List Field} {o n : Nat} (ho : f.offset = o) (hf : Rd P f.type m c) (hs : RdFs P fs (o + m) n c') : RdFs P (f :: fs) o n (fun x : α × β => c x.1 ++ c' x.2) := fun _ enc w fuel cs xs hl h hw => by
  rw [List.mapM_cons] at h
  obtain ⟨a, ha, h⟩ := Option.bind_eq_some_iff.1 h
  obtain ⟨ys, hys, e⟩ := Option.bind_eq_some_iff.1 h
  cases e
  obtain ⟨y, h1⟩ := hf.2.2 enc w fuel _ a ha fun k hk => hw k (by simp only [List.map_cons, DataW.weightsEach]; exact List.mem_append_left _ hk)
  obtain ⟨z, h2⟩ := hs _ enc w fuel cs ys hl hys fun k hk => hw k (by simp only [List.map_cons, DataW.weightsEach]; exact List.mem_append_right _ hk)
  refine ⟨(y, z), ?_⟩
  have : cs.drop o = (cs.drop f.offset).take (P.cellsOf f.type) ++ cs.drop (o + m) := by
    rw [ho, hf.2.1, ← List.drop_drop]
    exact (List.take_append_drop m (cs.drop o)).symm
  rw [this]
  exact h1.app h2
theorem Rd.struct {α β : Type} {c : α → List DV} {c' : β → List DV} {fs : Array Field} (ht : P.underlying t = some (.struct fs)) (hc : P.cellsOf t = m) (hs : RdFs P fs.toList 0 m c) (g : α → β) (hg : ∀ x, c x = c' (g x)) (hm : ∀ x, (c' x).length = m) : Rd P t m c' := ⟨hm, hc, fun enc w fuel cs x h hw => by
  cases fuel with
  | zero => simp [DataW.trod] at h
  | succ fuel =>
    unfold DataW.trod at h
    rw [ht] at h
    simp only at h
    split at h
    · rename_i hl
      obtain ⟨xs, hxs, e⟩ := Option.map_eq_some_iff.1 h
      subst e
      obtain ⟨y, hy⟩ := hs _ enc w fuel cs xs (by rw [hl, hc]) hxs fun k hk => hw k (by simp only [DataW.weights, ht]; exact hk)
      exact ⟨g y, by rw [← hg]; exact hy⟩
    · cases h⟩
end
end Go.Proofs.YtekkngkphejfcaaDoor
namespace Go.Proofs.YtekkngkphejfcaaDoor
open Go.ChangeShapes Go.WideShapes Go.ChangeAt Go.RowKit
/-- A parameter's values, as the view has them. -/
def RdV (P : Program) (t : TypeId) {α : Type} (d : α → DV) : Prop := ∀ {H : Type} (enc : TypeId × Value → H) (w : World) (base : Nat) (v : Value) (x : DataW H) (ps : List MemPlace), Value.okWide P w .any base t v → DataW.Trod enc P w 0 (fun _ => true) true t v x ps → (∀ n ∈ x.weights P t, n ≤ reachBytes) → ∃ y : α, RepV (fun _ => False) w (d y) [] v
section
variable {P : Program} {t e : TypeId}
theorem RdV.int {k : IntKind} (ht : P.underlying t = some (.int k)) : RdV P t (fun n : Int => .int k n) := fun enc w base v x ps hok _ _ => by
  obtain ⟨n, rfl⟩ := okWide_int ht hok
  exact ⟨n, rfl⟩
theorem RdV.one {α : Type} {c : α → List DV} (ht : P.underlying t = some (.slice e)) (h : Rd P t 1 c) : RdV P t (fun x => (c x).getD 0 .any) := fun enc w base v x ps hok ⟨fuel, hx⟩ hw => by
  obtain ⟨a, len, cap, rfl⟩ := okWide_slice ht hok
  obtain ⟨y, h1, h2⟩ := h.2.2 enc w fuel _ _ hx hw
  exact ⟨y, by simpa [Value.cells] using h2 0 (by rw [h.1]; exact Nat.zero_lt_one)⟩
theorem RdV.agg {α : Type} {m : Nat} {c : α → List DV} {fs : Array Field} (ht : P.underlying t = some (.struct fs)) (h : Rd P t m c) : RdV P t (fun x => .agg m (L1 (c x))) := fun enc w base v x ps hok ⟨fuel, hx⟩ hw => by
  obtain ⟨cs, rfl, hcs⟩ := okWide_struct ht hok
  obtain ⟨y, h1, h2⟩ := h.2.2 enc w fuel _ _ hx hw
  have hm : (c y).length = m := h.1 y
  have hsz : cs.size = m := by
    have : cs.toList.length = (c y).length := h1
    simpa [hm] using this
  refine ⟨y, cs, rfl, hsz, fun j hj => ?_⟩
  have := h2 j (by rw [hm]; exact hj)
  refine ⟨cs[j]'(by omega), by simp [hsz, hj], ?_⟩
  have e : (Value.agg cs).cells.toList.getD j undef = cs[j]'(by omega) := by
    show cs.toList.getD j undef = _
    simp [List.getD_eq_getElem?_getD, hsz, hj]
  rw [e] at this
  exact this
/-- All parameters. -/
def ArgsV (P : Program) (ts : List TypeId) {α : Type} (ds : α → List DV) : Prop := ∀ {H : Type} (enc : TypeId × Value → H) (w : World) (base : Nat) (vs : List Value) (xs : List (DataW H)) (ps : List MemPlace), (∀ (j : Nat) t v, ts[j]? = some t → vs[j]? = some v → Value.okWide P w .any base t v) → DataW.TrodAll enc P w 0 (fun _ => true) true ts vs xs ps → (∀ n ∈ DataW.weightsEach P ts xs, n ≤ reachBytes) → ∃ y : α, (ds y).length = vs.length ∧ ∀ j, j < vs.length → RepV (fun _ => False) w ((ds y).getD j .any) [] (vs.getD j undef)
theorem ArgsV.nil : ArgsV P [] (fun _ : Unit => []) := fun enc w base vs xs ps _ h _ => by
  obtain ⟨rfl, _, _⟩ := trodAll_nil h
  exact ⟨(), rfl, fun j hj => absurd hj (Nat.not_lt_zero j)⟩
theorem ArgsV.cons {α β : Type} {d : α → DV} {ds : β → List DV} {ts : List TypeId} (h : RdV P t d) (hs : ArgsV P ts ds) : ArgsV P (t :: ts) (fun x : α × β => d x.1 :: ds x.2) := fun enc w base vs xs ps hok h0 hw => by
  obtain ⟨v, vs', x, xs', p, q, rfl, rfl, rfl, h1, h2⟩ := trodAll_cons h0
  obtain ⟨y, hy⟩ := h enc w base v x p (hok 0 t v rfl rfl) h1 fun n hn => hw n (by simp only [DataW.weightsEach]; exact List.mem_append_left _ hn)
  obtain ⟨z, hz1, hz2⟩ := hs enc w base vs' xs' q (fun j t' v' a b => hok (j + 1) t' v' (by simpa using a) (by simpa using b)) h2 fun n hn => hw n (by simp only [DataW.weightsEach]; exact List.mem_append_right _ hn)
  refine ⟨(y, z), by simp [hz1], fun j hj => ?_⟩
  cases j with
  | zero => exact hy
  | succ j => exact hz2 j (by simpa using hj)
theorem trodAll_ext {H : Type} {enc : TypeId × Value → H} (hl : laidOutB P = true) {W W' : World} (hE : Ext W W') : ∀ {ts : List TypeId} {vs : List Value} {ds : List (DataW H)} {ps : List MemPlace}, (∀ t ∈ ts, P.readableRec t = true ∧ t < P.types.size) → DataW.TrodAll enc P W 0 (fun _ => true) true ts vs ds ps → (∀ x ∈ ps, x.block < W.heap.size) → DataW.TrodAll enc P W' 0 (fun b => decide (b < W.heap.size)) true ts vs ds ps
  | [], _, _, _, _, h, _ => by
    obtain ⟨rfl, rfl, rfl⟩ := trodAll_nil h
    rfl
  | t :: ts, _, _, _, hr, h, hlt => by
    obtain ⟨v, vs', x, xs', p, q, rfl, rfl, rfl, h1, h2⟩ := trodAll_cons h
    exact ⟨p, q, Below.trod hl (hr t (by simp)).1 (hr t (by simp)).2 h1 hE fun x hx => hlt x (List.mem_append_left _ hx), trodAll_ext hl hE (fun t ht => hr t (by simp [ht])) h2 fun x hx => hlt x (List.mem_append_right _ hx), rfl⟩
/-- What a law asks behind the call: true, and all that came in as it was. -/
theorem post_law {H : Type} {enc : TypeId × Value → H} {f : Func} {s : ChangeSpec} {W W' : World} {args : Array Value} {ds gs : List (DataW H)} {before : List MemPlace} {tb : TypeId} (hl : laidOutB P = true) (hr : ∀ t ∈ f.params.toList, P.readableRec t = true ∧ t < P.types.size) (hE : Ext W W')
    (hW : DataW.Whole enc P f.params.toList s.vars false W args.toList ds gs before) (hv : s.vars = []) (hs : s.fn H (ds ++ gs) = { results := [.lit (.bool true)], args := ds }) (hrt : f.resultTypes = #[tb]) (htb : P.underlying tb = some .bool) :
    s.post enc P f false true false false W args (.bool true) W' := by
  have hW' := hW
  have hlt := hW.lt
  obtain ⟨p, q, hA, hV, rfl, hfz, hnd⟩ := hW
  rw [hv] at hV
  obtain ⟨rfl, rfl⟩ := trodVars_none hV
  have hargs := trodAll_ext hl hE hr hA fun x hx => hlt x (List.mem_append_left _ hx)
  refine ⟨ds, [], p ++ [], [], p, [], hW', ?_, ?_, ?_, World.keptBut_mono (fun x hx => ⟨hx, .inr (.inl (by simpa using hx))⟩) (Below.frame hE (· ∈ p ++ [])), fun h => by cases h⟩
  · rw [hs, hrt]
    exact trodAll_mk1 (shut_bool htb true)
  · rw [hs]; exact hargs
  · rw [hv, hs]; rfl
/-- A law's call. -/
theorem law_calls {H : Type} {enc : TypeId × Value → H} {Γ : Glo} {fid : Nat} {f : Func} {s : ChangeSpec} {W : World} {base : Nat} {args : Array Value} {ds gs : List (DataW H)} {before : List MemPlace} {tb : TypeId} {α : Type} {dv : α → List DV} (hl : laidOutB P = true) (hr : ∀ t ∈ f.params.toList, P.readableRec t = true ∧ t < P.types.size)
    (hread : ArgsV P f.params.toList dv) (hES : ∀ (w : World) (y : α), (∀ j, RepV (fun _ => False) w ((dv y).getD j .any) [] (args.getD j undef)) → ES P Γ fid (dv y) [] (.bool true) [] true)
    (hval : ∀ (j : Nat) t v, f.params[j]? = some t → args[j]? = some v → Value.okWide P W .any base t v) (hW : DataW.Whole enc P f.params.toList s.vars false W args.toList ds gs before) (hv : s.vars = []) (hs : s.fn H (ds ++ gs) = { results := [.lit (.bool true)], args := ds }) (hrt : f.resultTypes = #[tb]) (htb : P.underlying tb = some .bool)
    (hsz : (DataW.weightsEach P f.params.toList ds).all (· ≤ reachBytes) = true) (hg : Γ.gi W) : Calls P fid args W fun e W' => ∃ v, e = .returned v ∧ s.post enc P f false true false false W args v W' := by
  have hW' := hW
  obtain ⟨p, q, hA, hV, rfl, hfz, hnd⟩ := hW
  obtain ⟨y, h1, h2⟩ := hread enc W base args.toList ds p (fun j t v a b => hval j t v (by simpa using a) (by simpa using b)) hA fun n hn => by
    have := List.all_eq_true.1 hsz n hn
    simpa using this
  have hlen : (dv y).length = args.size := by simpa using h1
  have hrep : ∀ j, RepV (fun _ => False) W ((dv y).getD j .any) [] (args.getD j undef) := fun j => by
    rcases Nat.lt_or_ge j args.size with hj | hj
    · have := h2 j (by simpa using hj)
      simpa [List.getD_eq_getElem?_getD, Array.getD_eq_getD_getElem?, hj] using this
    · have : (dv y).getD j .any = .any := by rw [List.getD_eq_getElem?_getD, List.getElem?_eq_none (by omega)]; rfl
      rw [this]; trivial
  refine ((hES W y hrep).2 (fun _ => False) [] W args (hrel_nil (fun b hb => hb.elim) hg) ⟨hlen, fun i hi => ?_⟩).mono ?_
  · exact RepV.out _ (out_iff (fun b hb => MS_nil.1 hb) []) (hrep i)
  · rintro e W' ⟨v, rfl, G⟩
    obtain ⟨ρ', _, hvv, _⟩ := G.ex
    have hvv : v = .bool true := hvv
    subst hvv
    exact ⟨_, rfl, post_law hl hr (G.ext rfl) hW' hv hs hrt htb⟩
end
end Go.Proofs.YtekkngkphejfcaaDoor
namespace Go.Proofs.YtekkngkphejfcaaDoor
open Go.ChangeShapes Go.WideShapes Go.ChangeAt Go.RowKit
theorem own : ownKnob Tryd.prog.godebug = none := by kernel_rfl
theorem laidOutP : laidOutB Tryd.prog = true := by kernel_rfl
theorem bytes3 : 0 < Tryd.prog.bytesOf 3 := Nat.le_of_ble_eq_true (by kernel_rfl)
theorem rdI : Rd Tryd.prog 3 1 (fun n : Int => [.int .i64 n]) := Rd.int Tryd.underlying3 (by kernel_rfl)
theorem rdInts : Rd Tryd.prog 22 1 intsC := Rd.ints Tryd.underlying22 (by kernel_rfl) bytes3 Tryd.underlying3 (by kernel_rfl)
theorem rdRows : Rd Tryd.prog 23 1 (fun L : List (List Int) => [.sl 1 L.length (rowE intsC L)]) := Rd.rows Tryd.underlying23 (by kernel_rfl) (Nat.le_of_ble_eq_true (by kernel_rfl)) Nat.zero_lt_one rdInts
set_option maxRecDepth 100000 in
theorem rdCons : Rd Tryd.prog 38 9 consC := by
  refine Rd.struct Tryd.underlying38 (by kernel_rfl)
    (RdFs.cons rfl rdI <| RdFs.cons rfl rdInts <| RdFs.cons rfl rdI <| RdFs.cons rfl rdI <| RdFs.cons rfl rdI <| RdFs.cons rfl rdI <| RdFs.cons rfl rdInts <| RdFs.cons rfl rdI <| RdFs.cons rfl rdI <| RdFs.nil rfl)
    (fun x : Int × List Int × Int × Int × Int × Int × List Int × Int × Int × Unit => (⟨x.1, x.2.1, x.2.2.1, x.2.2.2.1, x.2.2.2.2.1, x.2.2.2.2.2.1, x.2.2.2.2.2.2.1, x.2.2.2.2.2.2.2.1, x.2.2.2.2.2.2.2.2.1⟩ : ConsD)) ?_ (fun _ => rfl)
  intro x; rfl
theorem rdConses : Rd Tryd.prog 24 1 (fun L : List ConsD => [.sl 9 L.length (rowE consC L)]) := Rd.rows Tryd.underlying24 (by kernel_rfl) (Nat.le_of_ble_eq_true (by kernel_rfl)) (by decide) rdCons
set_option maxRecDepth 100000 in
theorem rdProb : Rd Tryd.prog 26 5 probC := by
  refine Rd.struct Tryd.underlying26 (by kernel_rfl)
    (RdFs.cons rfl rdI <| RdFs.cons rfl rdI <| RdFs.cons rfl rdInts <| RdFs.cons rfl rdRows <| RdFs.cons rfl rdConses <| RdFs.nil rfl)
    (fun x : Int × Int × List Int × List (List Int) × List ConsD × Unit => (⟨x.1, x.2.1, x.2.2.1, x.2.2.2.1, x.2.2.2.2.1⟩ : ProbD)) ?_ (fun _ => rfl)
  intro x; rfl
theorem rvProb : RdV Tryd.prog 26 (fun q : ProbD => .agg 5 (L1 (probC q))) := RdV.agg Tryd.underlying26 rdProb
theorem rvInt : RdV Tryd.prog 3 (fun n : Int => .int .i64 n) := RdV.int Tryd.underlying3
theorem rvInts : RdV Tryd.prog 22 (fun l : List Int => .ints l) := RdV.one Tryd.underlying22 rdInts
theorem Fit.of {M : Nat → Prop} {w : World} {ρ : List Place} {q : ProbD} {v : Value} (h : RepV M w (.agg 5 (L1 (probC q))) ρ v) : Fit q := by
  obtain ⟨cs, _, _, hc⟩ := h
  have row : ∀ {α : Type} [Inhabited α] {m : Nat} {c : α → List DV} {L : List α} {u : Value}, 0 < m → RepV M w (.sl m L.length (rowE c L)) ρ u → ∀ x ∈ L, ∀ j, j < m → ∃ u, RepV M w ((c x).getD j .any) [] u := by
    intro α _ m c L u hm ⟨a, cap, _, _, _, hh⟩ x hx j hj
    obtain ⟨i, hi, rfl⟩ := List.getElem_of_mem hx
    obtain ⟨b, o, u, _, _, _, hr⟩ := hh i j hi hj
    refine ⟨u, ?_⟩
    have e : L.getD i default = L[i] := by simp [hi]
    have hr : RepV M w ((c (L.getD i default)).getD j .any) [] u := hr
    rw [e] at hr; exact hr
  refine ⟨?_, fun r hr => ?_, fun c hcm => ?_, fun c hcm => ?_⟩
  · obtain ⟨u, _, h2⟩ := hc 2 (by decide)
    exact ints_le h2
  · obtain ⟨u, _, h3⟩ := hc 3 (by decide)
    obtain ⟨u, h⟩ := row (c := intsC) (L := q.nbrs) Nat.zero_lt_one h3 r hr 0 Nat.zero_lt_one
    exact ints_le h
  · obtain ⟨u, _, h4⟩ := hc 4 (by decide)
    obtain ⟨u, h⟩ := row (c := consC) (L := q.cons) (by decide) h4 c hcm 1 (by decide)
    exact ints_le h
  · obtain ⟨u, _, h4⟩ := hc 4 (by decide)
    obtain ⟨u, h⟩ := row (c := consC) (L := q.cons) (by decide) h4 c hcm 6 (by decide)
    exact ints_le h
theorem gTab : Tryd.prog.globalNamed "math/bits.deBruijn64tab" = some 1 := by kernel_rfl
theorem gTabType : (Tryd.prog.globals[1]?).map (·.type) = some 122 := by kernel_rfl
/-- What a law's row lists: the two tables. -/
abbrev laidTabs {H : Type} : List (String × DataW H) := [("math/bits.deBruijn32tab", Rows.laid_math_bits_deBruijn32tab), ("math/bits.deBruijn64tab", Rows.laid_math_bits_deBruijn64tab)]
theorem table {W : World} (h : laidMetH Tryd.prog laidTabs W) : Lib.TabIs Tryd.prog W "math/bits.deBruijn64tab" .u8 (Lib.deBruijn64tab.map Int.ofNat) :=
  Lib.tabIs_of_head (rest := []) gTab gTabType Tryd.underlying122 Tryd.underlying5 (by kernel_rfl) (by kernel_rfl) (laidMet.tail (show laidMet Tryd.prog laidTabs W from h))
theorem table_gi {W : World} (h : laidMetH Tryd.prog laidTabs W) : GG.gi W := by
  have T := table h
  have c : ∀ j, j < 64 → W.cell? ⟨1, j, none⟩ = some (.int .u8 ((Lib.deBruijn64tab.map Int.ofNat).getD j 0)) := fun j hj => T.cell gTab j (by rw [List.length_map]; exact hj)
  refine ⟨fun j hj => ?_, ?_⟩
  · have hj : j < 64 := hj
    rw [c j hj]
    have : (Lib.deBruijn64tab.map Int.ofNat).getD j 0 = ((Lib.deBruijn64tab.getD j 0 : Nat) : Int) := by
      have hl : j < Lib.deBruijn64tab.length := hj
      simp [List.getD_eq_getElem?_getD, hl]
    rw [this]
  · have := World.block_lt_of_cell? W _ (c 0 (by decide))
    exact this
/-- A world for the witness: the settled one, the tables as their initialisers lay them. -/
def layTab (l : List Nat) (o : Obj) : Obj := match o with
  | .cells _ t frozen => .cells (l.map fun n => Value.int .u8 (Int.ofNat n)).toArray t frozen
  | o => o
noncomputable def laidWorld (os : Os) : World :=
  { World.holding Tryd.prog os ⟨#[], #[], []⟩ with heap := ((World.holding Tryd.prog os ⟨#[], #[], []⟩).heap.modify 0 (layTab Lib.deBruijn32tab)).modify 1 (layTab Lib.deBruijn64tab) }
/-- The empty problem. -/
def prob0 : Value := .agg #[.int .i64 0, .int .i64 0, .slice none 0 0, .slice none 0 0, .slice none 0 0]
end Go.Proofs.YtekkngkphejfcaaDoor
