/- Functions read off the code: valid problems. -/
import Derived.Test.YtekkngkphejfcaaDoorHa
namespace Go.Proofs.YtekkngkphejfcaaDoor
open Go.RowKit

def sch_wiOut : Sch := fun i => match i with
  | _ => .no
def wiOut_l0 (n : Nat) (v lo hi : Int) : Option Bool :=
  bif (decide (v < lo)) then
   some true
  else
   some (decide (v > hi))
def wiOut (n : Nat) (v lo hi : Int) : Option Bool := wiOut_l0 n v lo hi
set_option maxRecDepth 100000 in
set_option maxHeartbeats 4000000 in
theorem wiOut_ok {n : Nat} (v lo hi : Int) {r : Bool} (h : wiOut n v lo hi = some r) : ES Tryd.prog GG 53 [.int .i64 v, .fp 1 (L1 [.int .i64 lo]), .fp 1 (L1 [.int .i64 hi])] [] (.bool r) [] true := by
  have hX : HX Fence.wide Tryd.prog := ⟨FOk.wide, by kernel_rfl⟩
  refine ES.of_trk Tryd.func53 (by kernel_rfl) (by kernel_rfl) noIter_nil (fun _ => rfl) fun B N => ?_
  unfold wiOut at h
  unfold wiOut_l0 at h
  rcases bifSome h with ⟨c0, h⟩ | ⟨c0, h⟩
  · obtain rfl := Option.some.inj h
    exact TrK.e hX sch_wiOut 9 [4] [] [] (.o 7 (DLe.bool c0) <| .e) [] .e (by kernel_rfl)
  · cases h
    exact TrK.e hX sch_wiOut 9 [4] [] [] (.o 7 (DLe.bool c0) <| .e) [] .e (by kernel_rfl)


def sch_indexOut : Sch := fun i => match i with
  | _ => .no
inductive indexOutPt where
  | l1 (x8 : Int)
def indexOut_l1 (n : Nat) (self : indexOutPt → Option Int) (l : List Int) (lo hi : Int) (x8 : Int) : Option Int :=
  bif (decide (x8 < ((l.length : Nat) : Int))) then
   if (0 : Int) ≤ x8 ∧ x8 < ((l.length : Nat) : Int) then
    (wiOut n (l.getD ((x8).toNat) 0) lo hi).bind fun y1 =>
     bif y1 then
      some x8
     else
      if R64 (x8 + 1) then
       self (.l1 (x8 + 1))
      else none
   else none
  else
   some (-1)
def indexOut_l0 (n : Nat) (self : indexOutPt → Option Int) (l : List Int) (lo hi : Int) : Option Int :=
  self (.l1 0)
def indexOut_m (l : List Int) (lo hi : Int) : Nat → indexOutPt → Option Int
  | 0, _ => none
  | n + 1, .l1 x8 => indexOut_l1 n (indexOut_m l lo hi n) l lo hi x8
def indexOut (n : Nat) (l : List Int) (lo hi : Int) : Option Int := indexOut_l0 n (indexOut_m l lo hi n) l lo hi
/-- What the points stand for. -/
def indexOut_at (n : Nat) (B : Nat) (N : Yard Tryd.prog GG 0) (l : List Int) (lo hi : Int) (r : Int) : indexOutPt → Prop
  | .l1 x8 => ∀ m0 : Nat, n ≤ m0 → TrK Tryd.prog GG Fence.wide (some B) 0 N (Fin Tryd.prog Tryd.f71 0 (.int .i64 r) []) (toN m0 (atNC (bodyC Tryd.f71) 0 [])) ⟨frm 19 [(0, .ints l), (1, .fn 53 2 (L1 [.fp 1 (L1 [.int .i64 lo]), .fp 1 (L1 [.int .i64 hi])])), (7, .int .i64 ((l.length : Nat) : Int)), (8, .int .i64 x8)], []⟩
set_option maxRecDepth 100000 in
set_option maxHeartbeats 4000000 in
theorem indexOut_p1 (n B : Nat) (N : Yard Tryd.prog GG 0) (self : indexOutPt → Option Int) (l : List Int) (lo hi : Int) (hself : ∀ pt r, self pt = some r → indexOut_at n B N l lo hi r pt) (x8 : Int) (r : Int) (h : indexOut_l1 n self l lo hi x8 = some r) : indexOut_at (n + 1) B N l lo hi r (.l1 x8) := by
  have hX : HX Fence.wide Tryd.prog := ⟨FOk.wide, by kernel_rfl⟩
  intro m0 hm0
  refine TrK.round hm0 (by kernel_rfl) fun m0 hm0 => ?_
  unfold indexOut_l1 at h
  rcases bifSome h with ⟨c0, h⟩ | ⟨c0, h⟩
  · obtain ⟨g0, h⟩ := guardSome h
    obtain ⟨y1, hy1, h⟩ := bindSome h
    rcases bifSome h with ⟨c1, h⟩ | ⟨c1, h⟩
    · obtain rfl := Option.some.inj h
      exact TrK.e hX sch_indexOut 19 [4] [] [] (.o 9 (DLe.bool c0) <| .g g0 <| .c (ES.frameB (wiOut_ok (l.getD ((x8).toNat) 0) lo hi hy1) [] (by kernel_rfl)) <| .o 16 (DLe.bool c1) <| .e) [] .e (by kernel_rfl)
    · obtain ⟨g1, h⟩ := guardSome h
      exact TrK.g hX sch_indexOut 20 [0, 1, 7, 8] [] [] (.o 9 (DLe.bool c0) <| .g g0 <| .c (ES.frameB (wiOut_ok (l.getD ((x8).toNat) 0) lo hi hy1) [] (by kernel_rfl)) <| .o 16 (DLe.bool c1) <| .o 18 (wr64 g1) <| .e) (hself (.l1 (x8 + 1)) r h m0 hm0) (by kernel_rfl) (by kernel_rfl)
  · cases h
    exact TrK.e hX sch_indexOut 12 [4] [] [] (.o 9 (DLe.bool c0) <| .e) [] .e (by kernel_rfl)
theorem indexOut_all (B : Nat) (N : Yard Tryd.prog GG 0) (l : List Int) (lo hi : Int) : ∀ (n : Nat) (pt : indexOutPt) (r : Int), indexOut_m l lo hi n pt = some r → indexOut_at n B N l lo hi r pt
  | 0, _, _, h => by cases h
  | n + 1, .l1 x8, r, h => indexOut_p1 n B N (indexOut_m l lo hi n) l lo hi (indexOut_all B N l lo hi n) x8 r h
set_option maxRecDepth 100000 in
set_option maxHeartbeats 4000000 in
theorem indexOut_ok {n : Nat} (l : List Int) (lo hi : Int) {r : Int} (h : indexOut n l lo hi = some r) : ES Tryd.prog GG 71 [.ints l, .fn 53 2 (L1 [.fp 1 (L1 [.int .i64 lo]), .fp 1 (L1 [.int .i64 hi])])] [] (.int .i64 r) [] true := by
  have hX : HX Fence.wide Tryd.prog := ⟨FOk.wide, by kernel_rfl⟩
  refine ES.of_trk Tryd.func71 (by kernel_rfl) (by kernel_rfl) noIter_nil (fun _ => rfl) fun B N => ?_
  have hself := indexOut_all B N l lo hi n
  unfold indexOut at h
  generalize indexOut_m l lo hi n = self at h hself
  unfold indexOut_l0 at h
  exact TrK.g hX sch_indexOut 11 [0, 1, 7, 8] [] [] .e (TrK.enter n (by kernel_rfl) (hself (.l1 0) r h n (Nat.le_refl _))) (by kernel_rfl) (by kernel_rfl)


def sch_containsOut : Sch := fun i => match i with
  | _ => .no
def containsOut_l0 (n : Nat) (l : List Int) (lo hi : Int) : Option Bool :=
  (indexOut n l lo hi).bind fun y1 =>
   some (decide (y1 ≥ 0))
def containsOut (n : Nat) (l : List Int) (lo hi : Int) : Option Bool := containsOut_l0 n l lo hi
set_option maxRecDepth 100000 in
set_option maxHeartbeats 4000000 in
theorem containsOut_ok {n : Nat} (l : List Int) (lo hi : Int) {r : Bool} (h : containsOut n l lo hi = some r) : ES Tryd.prog GG 52 [.ints l, .fn 53 2 (L1 [.fp 1 (L1 [.int .i64 lo]), .fp 1 (L1 [.int .i64 hi])])] [] (.bool r) [] true := by
  have hX : HX Fence.wide Tryd.prog := ⟨FOk.wide, by kernel_rfl⟩
  refine ES.of_trk Tryd.func52 (by kernel_rfl) (by kernel_rfl) noIter_nil (fun _ => rfl) fun B N => ?_
  unfold containsOut at h
  unfold containsOut_l0 at h
  obtain ⟨y1, hy1, h⟩ := bindSome h
  cases h
  exact TrK.e hX sch_containsOut 9 [4] [] [] (.c (ES.frameB (indexOut_ok l lo hi hy1) [] (by kernel_rfl)) <| .e) [] .e (by kernel_rfl)


def sch_pzwithin : Sch := fun i => match i with
  | _ => .no
def pzwithin_l0 (n : Nat) (l_ : List Int) (lo hi : Int) : Option Bool :=
  (containsOut n l_ lo hi).bind fun y1 =>
   some (!y1)
def pzwithin (n : Nat) (l_ : List Int) (lo hi : Int) : Option Bool := pzwithin_l0 n l_ lo hi
set_option maxRecDepth 100000 in
set_option maxHeartbeats 4000000 in
theorem pzwithin_ok {n : Nat} (l_ : List Int) (lo hi : Int) {r : Bool} (h : pzwithin n l_ lo hi = some r) : ES Tryd.prog GG 31 [.ints l_, .int .i64 lo, .int .i64 hi] [] (.bool r) [] true := by
  have hX : HX Fence.wide Tryd.prog := ⟨FOk.wide, by kernel_rfl⟩
  refine ES.of_trk Tryd.func31 (by kernel_rfl) (by kernel_rfl) noIter_nil (fun _ => rfl) fun B N => ?_
  unfold pzwithin at h
  unfold pzwithin_l0 at h
  obtain ⟨y1, hy1, h⟩ := bindSome h
  cases h
  exact TrK.e hX sch_pzwithin 9 [6] [] [] (.c (ES.snapB (ds := [.ints l_, .fn 53 2 (L1 [.ref 0 0, .ref 1 0])]) (containsOut_ok l_ lo hi hy1) [some (.cells [.int .i64 lo]), some (.cells [.int .i64 hi])] ⟨Snap.plain (by kernel_rfl), (Snap.fnL (l := [.ref 0 0, .ref 1 0]) (l0 := [.fp 1 (L1 [.int .i64 lo]), .fp 1 (L1 [.int .i64 hi])]) ⟨(Snap.refL (l := [.int .i64 lo]) (l0 := [.int .i64 lo]) rfl ⟨Snap.plain (by kernel_rfl), trivial⟩), (Snap.refL (l := [.int .i64 hi]) (l0 := [.int .i64 hi]) rfl ⟨Snap.plain (by kernel_rfl), trivial⟩), trivial⟩), trivial⟩ (by kernel_rfl)) <| .e) [] .e (by kernel_rfl)


def a_fineD_24 : Prop := SOk (regF Tryd.f35 24) [([0, 1, 2, 3, 5, 6, 7, 8], 4), ([], 9), ([10, 11, 12, 13, 14], 15), ([], 16), ([17, 18, 19, 20, 21, 22, 23, 24, 25, 26], 27)] [28, 29] []
theorem s_fineD_24 : a_fineD_24 := by unfold a_fineD_24 SOk; kernel_rfl
def sch_fineD : Sch := fun i => match i with
  | 24 => .ord [([0, 1, 2, 3, 5, 6, 7, 8], 4), ([], 9), ([10, 11, 12, 13, 14], 15), ([], 16), ([17, 18, 19, 20, 21, 22, 23, 24, 25, 26], 27)] [28, 29] []
  | _ => .no
def hp_fineD_0 (q : ProbD) (c_ : ConsD) : DH := [some (.cells (probC q)), some (.cells (consC c_)), some (.ints ([c_.set, c_.other] : List Int)), some (.ints ([c_.lo, c_.hi] : List Int))]
inductive fineDPt where
  | l1 (x11 : Int) (o2 : List Bool)
  | l2
def fineD_l1 (n : Nat) (self : fineDPt → Option Bool) (q : ProbD) (c_ : ConsD) (x11 : Int) (o2 : List Bool) : Option Bool :=
  bif (decide (x11 < ((c_.cells.length : Nat) : Int))) then
   if (0 : Int) ≤ x11 ∧ x11 < ((c_.cells.length : Nat) : Int) then
    bif (decide ((c_.cells.getD ((x11).toNat) 0) < 0)) then
     some false
    else
     bif (decide ((c_.cells.getD ((x11).toNat) 0) ≥ q.cells)) then
      some false
     else
      if ((0 : Int) ≤ (c_.cells.getD ((x11).toNat) 0) ∧ (c_.cells.getD ((x11).toNat) 0) < ((256 : Nat) : Int)) ∧ 0 + ((c_.cells.getD ((x11).toNat) 0).toNat) < o2.length then
       bif (o2.getD (0 + ((c_.cells.getD ((x11).toNat) 0).toNat)) false) then
        some false
       else
        bif (decide (c_.kind ≥ 8)) then
         bif ((c_.cells.getD ((x11).toNat) 0) != x11) then
          some false
         else
          if R64 (x11 + 1) then
           self (.l1 (x11 + 1) (o2.set (0 + ((c_.cells.getD ((x11).toNat) 0).toNat)) true))
          else none
        else
         if R64 (x11 + 1) then
          self (.l1 (x11 + 1) (o2.set (0 + ((c_.cells.getD ((x11).toNat) 0).toNat)) true))
         else none
      else none
   else none
  else
   bif (c_.kind == 1) then
    self (.l2)
   else
    bif (c_.kind == 2) then
     self (.l2)
    else
     bif (c_.kind == 3) then
      self (.l2)
     else
      bif (c_.kind == 4) then
       self (.l2)
      else
       bif (c_.kind == 5) then
        self (.l2)
       else
        bif (c_.kind == 6) then
         bif (((c_.cells.length : Nat) : Int) != 2) then
          some false
         else
          self (.l2)
        else
         bif (c_.kind == 7) then
          bif (((c_.cells.length : Nat) : Int) != 2) then
           some false
          else
           self (.l2)
         else
          bif (c_.kind == 8) then
           bif (((c_.cells.length : Nat) : Int) != q.cells) then
            some false
           else
            self (.l2)
          else
           bif (c_.kind == 9) then
            bif (((c_.cells.length : Nat) : Int) != q.cells) then
             some false
            else
             self (.l2)
           else
            some false
def fineD_l2 (n : Nat) (self : fineDPt → Option Bool) (q : ProbD) (c_ : ConsD) : Option Bool :=
  if ((0 : Int) ≤ q.symbols ∧ q.symbols ≤ ((IntKind.i64.bits : Nat) : Int)) ∧ R64 ((IntKind.i64.wrap (1 * 2 ^ (q.symbols).toNat)) - 1) then
   (pzwithin n ([c_.set, c_.other] : List Int) 0 ((IntKind.i64.wrap (1 * 2 ^ (q.symbols).toNat)) - 1)).bind fun y1 =>
    bif y1 then
     (pzwithin n ([c_.lo, c_.hi] : List Int) 0 65536).bind fun y2 =>
      bif y2 then
       bif (decide (((c_.runs.length : Nat) : Int) ≤ 8)) then
        (pzwithin n c_.runs 1 256).bind fun y3 =>
         some y3
       else
        some false
      else
       some false
    else
     some false
  else none
def fineD_l0 (n : Nat) (self : fineDPt → Option Bool) (q : ProbD) (c_ : ConsD) : Option Bool :=
  self (.l1 0 (List.replicate 256 false))
def fineD_m (q : ProbD) (c_ : ConsD) : Nat → fineDPt → Option Bool
  | 0, _ => none
  | n + 1, .l1 x11 o2 => fineD_l1 n (fineD_m q c_ n) q c_ x11 o2
  | n + 1, .l2 => fineD_l2 n (fineD_m q c_ n) q c_
def fineD (n : Nat) (q : ProbD) (c_ : ConsD) : Option Bool := fineD_l0 n (fineD_m q c_ n) q c_
/-- What the points stand for. -/
def fineD_at (n : Nat) (B : Nat) (N : Yard Tryd.prog GG 0) (q : ProbD) (c_ : ConsD) (r : Bool) : fineDPt → Prop
  | .l1 x11 o2 => ∀ m0 : Nat, n ≤ m0 → TrK Tryd.prog GG Fence.wide (some B) 0 N (Fin Tryd.prog Tryd.f35 0 (.bool r) []) (toN m0 (atNC (bodyC Tryd.f35) 0 [])) ⟨frm 95 [(2, .ref 0 0), (3, .ref 1 0), (5, .mp 2 1 0 0), (9, .ints c_.cells), (10, .int .i64 ((c_.cells.length : Nat) : Int)), (11, .int .i64 x11)], [some (.cells (probC q)), some (.cells (consC c_)), some (.bools o2)]⟩
  | .l2 => TrK Tryd.prog GG Fence.wide (some B) 0 N (Fin Tryd.prog Tryd.f35 0 (.bool r) []) (atGC (bodyC Tryd.f35) 24 []) ⟨frm 95 [(2, .ref 0 0), (3, .ref 1 0)], [some (.cells (probC q)), some (.cells (consC c_))]⟩
set_option maxRecDepth 100000 in
set_option maxHeartbeats 4000000 in
theorem fineD_p1 (n B : Nat) (N : Yard Tryd.prog GG 0) (self : fineDPt → Option Bool) (q : ProbD) (c_ : ConsD) (hself : ∀ pt r, self pt = some r → fineD_at n B N q c_ r pt) (x11 : Int) (o2 : List Bool) (r : Bool) (h : fineD_l1 n self q c_ x11 o2 = some r) : fineD_at (n + 1) B N q c_ r (.l1 x11 o2) := by
  have hX : HX Fence.wide Tryd.prog := ⟨FOk.wide, by kernel_rfl⟩
  intro m0 hm0
  refine TrK.round hm0 (by kernel_rfl) fun m0 hm0 => ?_
  unfold fineD_l1 at h
  rcases bifSome h with ⟨c0, h⟩ | ⟨c0, h⟩
  · obtain ⟨g0, h⟩ := guardSome h
    rcases bifSome h with ⟨c1, h⟩ | ⟨c1, h⟩
    · obtain rfl := Option.some.inj h
      exact TrK.e hX (stopAt 24 sch_fineD) 20 [4] [] [] (.o 12 (DLe.bool c0) <| .g g0 <| .o 17 (DLe.bool c1) <| .e) [] .e (by kernel_rfl)
    · rcases bifSome h with ⟨c2, h⟩ | ⟨c2, h⟩
      · obtain rfl := Option.some.inj h
        exact TrK.e hX (stopAt 24 sch_fineD) 20 [4] [] [] (.o 12 (DLe.bool c0) <| .g g0 <| .o 17 (DLe.bool c1) <| .o 22 (DLe.bool c2) <| .e) [] .e (by kernel_rfl)
      · obtain ⟨⟨g1, g2⟩, h⟩ := guardSome h
        rcases bifSome h with ⟨c3, h⟩ | ⟨c3, h⟩
        · obtain rfl := Option.some.inj h
          exact TrK.e hX (stopAt 24 sch_fineD) 20 [4] [] [] (.o 12 (DLe.bool c0) <| .g g0 <| .o 17 (DLe.bool c1) <| .o 22 (DLe.bool c2) <| .g g1 <| .g g2 <| .o 27 (DLe.bool c3) <| .e) [] .e (by kernel_rfl)
        · rcases bifSome h with ⟨c4, h⟩ | ⟨c4, h⟩
          · rcases bifSome h with ⟨c5, h⟩ | ⟨c5, h⟩
            · obtain rfl := Option.some.inj h
              exact TrK.e hX (stopAt 24 sch_fineD) 20 [4] [] [] (.o 12 (DLe.bool c0) <| .g g0 <| .o 17 (DLe.bool c1) <| .o 22 (DLe.bool c2) <| .g g1 <| .g g2 <| .o 27 (DLe.bool c3) <| .o 32 (DLe.bool c4) <| .o 36 (DLe.bool c5) <| .e) [] .e (by kernel_rfl)
            · obtain ⟨g3, h⟩ := guardSome h
              exact TrK.g hX (stopAt 24 sch_fineD) 22 [2, 3, 5, 9, 10, 11] [0, 1, 2] [] (.o 12 (DLe.bool c0) <| .g g0 <| .o 17 (DLe.bool c1) <| .o 22 (DLe.bool c2) <| .g g1 <| .g g2 <| .o 27 (DLe.bool c3) <| .o 32 (DLe.bool c4) <| .o 36 (DLe.bool c5) <| .g g1 <| .g g2 <| .o 41 (wr64 g3) <| .e) (hself (.l1 (x11 + 1) (o2.set (0 + ((c_.cells.getD ((x11).toNat) 0).toNat)) true)) r h m0 hm0) (by kernel_rfl) (by kernel_rfl)
          · obtain ⟨g3, h⟩ := guardSome h
            exact TrK.g hX (stopAt 24 sch_fineD) 22 [2, 3, 5, 9, 10, 11] [0, 1, 2] [] (.o 12 (DLe.bool c0) <| .g g0 <| .o 17 (DLe.bool c1) <| .o 22 (DLe.bool c2) <| .g g1 <| .g g2 <| .o 27 (DLe.bool c3) <| .o 32 (DLe.bool c4) <| .g g1 <| .g g2 <| .o 41 (wr64 g3) <| .e) (hself (.l1 (x11 + 1) (o2.set (0 + ((c_.cells.getD ((x11).toNat) 0).toNat)) true)) r h m0 hm0) (by kernel_rfl) (by kernel_rfl)
  · rcases bifSome h with ⟨c1, h⟩ | ⟨c1, h⟩
    · exact TrK.g hX (stopAt 24 sch_fineD) 23 [2, 3] [0, 1] [] (.o 12 (DLe.bool c0) <| .o 45 (DLe.bool c1) <| .e) (hself (.l2) r h) (by kernel_rfl) (by kernel_rfl)
    · rcases bifSome h with ⟨c2, h⟩ | ⟨c2, h⟩
      · exact TrK.g hX (stopAt 24 sch_fineD) 26 [2, 3] [0, 1] [] (.o 12 (DLe.bool c0) <| .o 45 (DLe.bool c1) <| .o 46 (DLe.bool c2) <| .e) (hself (.l2) r h) (by kernel_rfl) (by kernel_rfl)
      · rcases bifSome h with ⟨c3, h⟩ | ⟨c3, h⟩
        · exact TrK.g hX (stopAt 24 sch_fineD) 29 [2, 3] [0, 1] [] (.o 12 (DLe.bool c0) <| .o 45 (DLe.bool c1) <| .o 46 (DLe.bool c2) <| .o 47 (DLe.bool c3) <| .e) (hself (.l2) r h) (by kernel_rfl) (by kernel_rfl)
        · rcases bifSome h with ⟨c4, h⟩ | ⟨c4, h⟩
          · exact TrK.g hX (stopAt 24 sch_fineD) 32 [2, 3] [0, 1] [] (.o 12 (DLe.bool c0) <| .o 45 (DLe.bool c1) <| .o 46 (DLe.bool c2) <| .o 47 (DLe.bool c3) <| .o 48 (DLe.bool c4) <| .e) (hself (.l2) r h) (by kernel_rfl) (by kernel_rfl)
          · rcases bifSome h with ⟨c5, h⟩ | ⟨c5, h⟩
            · exact TrK.g hX (stopAt 24 sch_fineD) 32 [2, 3] [0, 1] [] (.o 12 (DLe.bool c0) <| .o 45 (DLe.bool c1) <| .o 46 (DLe.bool c2) <| .o 47 (DLe.bool c3) <| .o 48 (DLe.bool c4) <| .o 49 (DLe.bool c5) <| .e) (hself (.l2) r h) (by kernel_rfl) (by kernel_rfl)
            · rcases bifSome h with ⟨c6, h⟩ | ⟨c6, h⟩
              · rcases bifSome h with ⟨c7, h⟩ | ⟨c7, h⟩
                · obtain rfl := Option.some.inj h
                  exact TrK.e hX (stopAt 24 sch_fineD) 40 [4] [] [] (.o 12 (DLe.bool c0) <| .o 45 (DLe.bool c1) <| .o 46 (DLe.bool c2) <| .o 47 (DLe.bool c3) <| .o 48 (DLe.bool c4) <| .o 49 (DLe.bool c5) <| .o 51 (DLe.bool c6) <| .o 56 (DLe.bool c7) <| .e) [] .e (by kernel_rfl)
                · exact TrK.g hX (stopAt 24 sch_fineD) 41 [2, 3] [0, 1] [] (.o 12 (DLe.bool c0) <| .o 45 (DLe.bool c1) <| .o 46 (DLe.bool c2) <| .o 47 (DLe.bool c3) <| .o 48 (DLe.bool c4) <| .o 49 (DLe.bool c5) <| .o 51 (DLe.bool c6) <| .o 56 (DLe.bool c7) <| .e) (hself (.l2) r h) (by kernel_rfl) (by kernel_rfl)
              · rcases bifSome h with ⟨c7, h⟩ | ⟨c7, h⟩
                · rcases bifSome h with ⟨c8, h⟩ | ⟨c8, h⟩
                  · obtain rfl := Option.some.inj h
                    exact TrK.e hX (stopAt 24 sch_fineD) 40 [4] [] [] (.o 12 (DLe.bool c0) <| .o 45 (DLe.bool c1) <| .o 46 (DLe.bool c2) <| .o 47 (DLe.bool c3) <| .o 48 (DLe.bool c4) <| .o 49 (DLe.bool c5) <| .o 51 (DLe.bool c6) <| .o 52 (DLe.bool c7) <| .o 56 (DLe.bool c8) <| .e) [] .e (by kernel_rfl)
                  · exact TrK.g hX (stopAt 24 sch_fineD) 41 [2, 3] [0, 1] [] (.o 12 (DLe.bool c0) <| .o 45 (DLe.bool c1) <| .o 46 (DLe.bool c2) <| .o 47 (DLe.bool c3) <| .o 48 (DLe.bool c4) <| .o 49 (DLe.bool c5) <| .o 51 (DLe.bool c6) <| .o 52 (DLe.bool c7) <| .o 56 (DLe.bool c8) <| .e) (hself (.l2) r h) (by kernel_rfl) (by kernel_rfl)
                · rcases bifSome h with ⟨c8, h⟩ | ⟨c8, h⟩
                  · rcases bifSome h with ⟨c9, h⟩ | ⟨c9, h⟩
                    · obtain rfl := Option.some.inj h
                      exact TrK.e hX (stopAt 24 sch_fineD) 46 [4] [] [] (.o 12 (DLe.bool c0) <| .o 45 (DLe.bool c1) <| .o 46 (DLe.bool c2) <| .o 47 (DLe.bool c3) <| .o 48 (DLe.bool c4) <| .o 49 (DLe.bool c5) <| .o 51 (DLe.bool c6) <| .o 52 (DLe.bool c7) <| .o 58 (DLe.bool c8) <| .o 65 (DLe.bool c9) <| .e) [] .e (by kernel_rfl)
                    · exact TrK.g hX (stopAt 24 sch_fineD) 47 [2, 3] [0, 1] [] (.o 12 (DLe.bool c0) <| .o 45 (DLe.bool c1) <| .o 46 (DLe.bool c2) <| .o 47 (DLe.bool c3) <| .o 48 (DLe.bool c4) <| .o 49 (DLe.bool c5) <| .o 51 (DLe.bool c6) <| .o 52 (DLe.bool c7) <| .o 58 (DLe.bool c8) <| .o 65 (DLe.bool c9) <| .e) (hself (.l2) r h) (by kernel_rfl) (by kernel_rfl)
                  · rcases bifSome h with ⟨c9, h⟩ | ⟨c9, h⟩
                    · rcases bifSome h with ⟨c10, h⟩ | ⟨c10, h⟩
                      · obtain rfl := Option.some.inj h
                        exact TrK.e hX (stopAt 24 sch_fineD) 46 [4] [] [] (.o 12 (DLe.bool c0) <| .o 45 (DLe.bool c1) <| .o 46 (DLe.bool c2) <| .o 47 (DLe.bool c3) <| .o 48 (DLe.bool c4) <| .o 49 (DLe.bool c5) <| .o 51 (DLe.bool c6) <| .o 52 (DLe.bool c7) <| .o 58 (DLe.bool c8) <| .o 59 (DLe.bool c9) <| .o 65 (DLe.bool c10) <| .e) [] .e (by kernel_rfl)
                      · exact TrK.g hX (stopAt 24 sch_fineD) 47 [2, 3] [0, 1] [] (.o 12 (DLe.bool c0) <| .o 45 (DLe.bool c1) <| .o 46 (DLe.bool c2) <| .o 47 (DLe.bool c3) <| .o 48 (DLe.bool c4) <| .o 49 (DLe.bool c5) <| .o 51 (DLe.bool c6) <| .o 52 (DLe.bool c7) <| .o 58 (DLe.bool c8) <| .o 59 (DLe.bool c9) <| .o 65 (DLe.bool c10) <| .e) (hself (.l2) r h) (by kernel_rfl) (by kernel_rfl)
                    · obtain rfl := Option.some.inj h
                      exact TrK.e hX (stopAt 24 sch_fineD) 43 [4] [] [] (.o 12 (DLe.bool c0) <| .o 45 (DLe.bool c1) <| .o 46 (DLe.bool c2) <| .o 47 (DLe.bool c3) <| .o 48 (DLe.bool c4) <| .o 49 (DLe.bool c5) <| .o 51 (DLe.bool c6) <| .o 52 (DLe.bool c7) <| .o 58 (DLe.bool c8) <| .o 59 (DLe.bool c9) <| .e) [] .e (by kernel_rfl)
set_option maxRecDepth 100000 in
set_option maxHeartbeats 4000000 in
theorem fineD_p2 (n B : Nat) (N : Yard Tryd.prog GG 0) (self : fineDPt → Option Bool) (q : ProbD) (c_ : ConsD) (hself : ∀ pt r, self pt = some r → fineD_at n B N q c_ r pt) (r : Bool) (h : fineD_l2 n self q c_ = some r) : fineD_at (n + 1) B N q c_ r (.l2) := by
  have hX : HX Fence.wide Tryd.prog := ⟨FOk.wide, by kernel_rfl⟩
  show TrK _ _ _ _ _ _ _ _ _
  unfold fineD_l2 at h
  obtain ⟨⟨g0, g1⟩, h⟩ := guardSome h
  obtain ⟨y1, hy1, h⟩ := bindSome h
  rcases bifSome h with ⟨c0, h⟩ | ⟨c0, h⟩
  · obtain ⟨y2, hy2, h⟩ := bindSome h
    rcases bifSome h with ⟨c1, h⟩ | ⟨c1, h⟩
    · rcases bifSome h with ⟨c2, h⟩ | ⟨c2, h⟩
      · obtain ⟨y3, hy3, h⟩ := bindSome h
        obtain rfl := Option.some.inj h
        exact TrK.e hX sch_fineD 6 [4] [] [] (.g s_fineD_24 <| .g g0 <| .o 74 (wr64 g1) <| .c (ES.snapB (ds := [.msl 2 1 0 2, .int .i64 0, .int .i64 ((IntKind.i64.wrap (1 * 2 ^ (q.symbols).toNat)) - 1)]) (pzwithin_ok ([c_.set, c_.other] : List Int) 0 ((IntKind.i64.wrap (1 * 2 ^ (q.symbols).toNat)) - 1) hy1) [some (.cells (probC q)), some (.cells (consC c_)), some (.ints ([c_.set, c_.other] : List Int))] ⟨Snap.ints rfl (Eq.refl 2), Snap.plain (by kernel_rfl), Snap.plain (by kernel_rfl), trivial⟩ (by kernel_rfl)) <| .o 75 (DLe.bool c0) <| .c (ES.snapB (ds := [.msl 3 1 0 2, .int .i64 0, .int .i64 65536]) (pzwithin_ok ([c_.lo, c_.hi] : List Int) 0 65536 hy2) (hp_fineD_0 q c_) ⟨Snap.ints rfl (Eq.refl 2), Snap.plain (by kernel_rfl), Snap.plain (by kernel_rfl), trivial⟩ (by kernel_rfl)) <| .o 82 (DLe.bool c1) <| .o 88 (DLe.bool c2) <| .c (ES.frameB (pzwithin_ok c_.runs 1 256 hy3) (hp_fineD_0 q c_) (by kernel_rfl)) <| .e) [] .e (by kernel_rfl)
      · obtain rfl := Option.some.inj h
        exact TrK.e hX sch_fineD 6 [4] [] [] (.g s_fineD_24 <| .g g0 <| .o 74 (wr64 g1) <| .c (ES.snapB (ds := [.msl 2 1 0 2, .int .i64 0, .int .i64 ((IntKind.i64.wrap (1 * 2 ^ (q.symbols).toNat)) - 1)]) (pzwithin_ok ([c_.set, c_.other] : List Int) 0 ((IntKind.i64.wrap (1 * 2 ^ (q.symbols).toNat)) - 1) hy1) [some (.cells (probC q)), some (.cells (consC c_)), some (.ints ([c_.set, c_.other] : List Int))] ⟨Snap.ints rfl (Eq.refl 2), Snap.plain (by kernel_rfl), Snap.plain (by kernel_rfl), trivial⟩ (by kernel_rfl)) <| .o 75 (DLe.bool c0) <| .c (ES.snapB (ds := [.msl 3 1 0 2, .int .i64 0, .int .i64 65536]) (pzwithin_ok ([c_.lo, c_.hi] : List Int) 0 65536 hy2) (hp_fineD_0 q c_) ⟨Snap.ints rfl (Eq.refl 2), Snap.plain (by kernel_rfl), Snap.plain (by kernel_rfl), trivial⟩ (by kernel_rfl)) <| .o 82 (DLe.bool c1) <| .o 88 (DLe.bool c2) <| .e) [] .e (by kernel_rfl)
    · obtain rfl := Option.some.inj h
      exact TrK.e hX sch_fineD 6 [4] [] [] (.g s_fineD_24 <| .g g0 <| .o 74 (wr64 g1) <| .c (ES.snapB (ds := [.msl 2 1 0 2, .int .i64 0, .int .i64 ((IntKind.i64.wrap (1 * 2 ^ (q.symbols).toNat)) - 1)]) (pzwithin_ok ([c_.set, c_.other] : List Int) 0 ((IntKind.i64.wrap (1 * 2 ^ (q.symbols).toNat)) - 1) hy1) [some (.cells (probC q)), some (.cells (consC c_)), some (.ints ([c_.set, c_.other] : List Int))] ⟨Snap.ints rfl (Eq.refl 2), Snap.plain (by kernel_rfl), Snap.plain (by kernel_rfl), trivial⟩ (by kernel_rfl)) <| .o 75 (DLe.bool c0) <| .c (ES.snapB (ds := [.msl 3 1 0 2, .int .i64 0, .int .i64 65536]) (pzwithin_ok ([c_.lo, c_.hi] : List Int) 0 65536 hy2) (hp_fineD_0 q c_) ⟨Snap.ints rfl (Eq.refl 2), Snap.plain (by kernel_rfl), Snap.plain (by kernel_rfl), trivial⟩ (by kernel_rfl)) <| .o 82 (DLe.bool c1) <| .e) [] .e (by kernel_rfl)
  · obtain rfl := Option.some.inj h
    exact TrK.e hX sch_fineD 6 [4] [] [] (.g s_fineD_24 <| .g g0 <| .o 74 (wr64 g1) <| .c (ES.snapB (ds := [.msl 2 1 0 2, .int .i64 0, .int .i64 ((IntKind.i64.wrap (1 * 2 ^ (q.symbols).toNat)) - 1)]) (pzwithin_ok ([c_.set, c_.other] : List Int) 0 ((IntKind.i64.wrap (1 * 2 ^ (q.symbols).toNat)) - 1) hy1) [some (.cells (probC q)), some (.cells (consC c_)), some (.ints ([c_.set, c_.other] : List Int))] ⟨Snap.ints rfl (Eq.refl 2), Snap.plain (by kernel_rfl), Snap.plain (by kernel_rfl), trivial⟩ (by kernel_rfl)) <| .o 75 (DLe.bool c0) <| .e) [] .e (by kernel_rfl)
theorem fineD_all (B : Nat) (N : Yard Tryd.prog GG 0) (q : ProbD) (c_ : ConsD) : ∀ (n : Nat) (pt : fineDPt) (r : Bool), fineD_m q c_ n pt = some r → fineD_at n B N q c_ r pt
  | 0, _, _, h => by cases h
  | n + 1, .l1 x11 o2, r, h => fineD_p1 n B N (fineD_m q c_ n) q c_ (fineD_all B N q c_ n) x11 o2 r h
  | n + 1, .l2, r, h => fineD_p2 n B N (fineD_m q c_ n) q c_ (fineD_all B N q c_ n) r h
set_option maxRecDepth 100000 in
set_option maxHeartbeats 4000000 in
theorem fineD_ok {n : Nat} (q : ProbD) (c_ : ConsD) {r : Bool} (h : fineD n q c_ = some r) : ES Tryd.prog GG 35 [.agg 5 (L1 (probC q)), .agg 9 (L1 (consC c_))] [] (.bool r) [] true := by
  have hX : HX Fence.wide Tryd.prog := ⟨FOk.wide, by kernel_rfl⟩
  refine ES.of_trk Tryd.func35 (by kernel_rfl) (by kernel_rfl) noIter_nil (fun _ => rfl) fun B N => ?_
  have hself := fineD_all B N q c_ n
  unfold fineD at h
  generalize fineD_m q c_ n = self at h hself
  unfold fineD_l0 at h
  exact TrK.g hX (stopAt 24 sch_fineD) 13 [2, 3, 5, 9, 10, 11] [0, 1, 2] [] .e (TrK.enter n (by kernel_rfl) (hself (.l1 0 (List.replicate 256 false)) r h n (Nat.le_refl _))) (by kernel_rfl) (by kernel_rfl)


def sch_unfine : Sch := fun i => match i with
  | _ => .no
def unfine_l0 (n : Nat) (c : ConsD) (q : ProbD) : Option Bool :=
  (fineD n q c).bind fun y1 =>
   some (!y1)
def unfine (n : Nat) (c : ConsD) (q : ProbD) : Option Bool := unfine_l0 n c q
set_option maxRecDepth 100000 in
set_option maxHeartbeats 4000000 in
theorem unfine_ok {n : Nat} (c : ConsD) (q : ProbD) {r : Bool} (h : unfine n c q = some r) : ES Tryd.prog GG 34 [.agg 9 (L1 (consC c)), .fp 5 (L1 (probC q))] [] (.bool r) [] true := by
  have hX : HX Fence.wide Tryd.prog := ⟨FOk.wide, by kernel_rfl⟩
  refine ES.of_trk Tryd.func34 (by kernel_rfl) (by kernel_rfl) noIter_nil (fun _ => rfl) fun B N => ?_
  unfold unfine at h
  unfold unfine_l0 at h
  obtain ⟨y1, hy1, h⟩ := bindSome h
  cases h
  exact TrK.e hX sch_unfine 9 [3] [] [] (.c (ES.frameB (fineD_ok q c hy1) [some (.cells (consC c))] (by kernel_rfl)) <| .e) [] .e (by kernel_rfl)


def sch_indexUnfine : Sch := fun i => match i with
  | _ => .no
inductive indexUnfinePt where
  | l1 (x8 : Int)
def indexUnfine_l1 (n : Nat) (self : indexUnfinePt → Option Int) (l : List ConsD) (q : ProbD) (x8 : Int) : Option Int :=
  bif (decide (x8 < ((l.length : Nat) : Int))) then
   if (0 : Int) ≤ x8 ∧ x8 < ((l.length : Nat) : Int) then
    (unfine n (l.getD ((x8).toNat) default) q).bind fun y1 =>
     bif y1 then
      some x8
     else
      if R64 (x8 + 1) then
       self (.l1 (x8 + 1))
      else none
   else none
  else
   some (-1)
def indexUnfine_l0 (n : Nat) (self : indexUnfinePt → Option Int) (l : List ConsD) (q : ProbD) : Option Int :=
  self (.l1 0)
def indexUnfine_m (l : List ConsD) (q : ProbD) : Nat → indexUnfinePt → Option Int
  | 0, _ => none
  | n + 1, .l1 x8 => indexUnfine_l1 n (indexUnfine_m l q n) l q x8
def indexUnfine (n : Nat) (l : List ConsD) (q : ProbD) : Option Int := indexUnfine_l0 n (indexUnfine_m l q n) l q
/-- What the points stand for. -/
def indexUnfine_at (n : Nat) (B : Nat) (N : Yard Tryd.prog GG 0) (l : List ConsD) (q : ProbD) (r : Int) : indexUnfinePt → Prop
  | .l1 x8 => ∀ m0 : Nat, n ≤ m0 → TrK Tryd.prog GG Fence.wide (some B) 0 N (Fin Tryd.prog Tryd.f55 0 (.int .i64 r) []) (toN m0 (atNC (bodyC Tryd.f55) 0 [])) ⟨frm 19 [(0, .sl 9 l.length (rowE consC l)), (1, .fn 34 1 (L1 [.fp 5 (L1 (probC q))])), (7, .int .i64 ((l.length : Nat) : Int)), (8, .int .i64 x8)], []⟩
set_option maxRecDepth 100000 in
set_option maxHeartbeats 4000000 in
theorem indexUnfine_p1 (n B : Nat) (N : Yard Tryd.prog GG 0) (self : indexUnfinePt → Option Int) (l : List ConsD) (q : ProbD) (hself : ∀ pt r, self pt = some r → indexUnfine_at n B N l q r pt) (x8 : Int) (r : Int) (h : indexUnfine_l1 n self l q x8 = some r) : indexUnfine_at (n + 1) B N l q r (.l1 x8) := by
  have hX : HX Fence.wide Tryd.prog := ⟨FOk.wide, by kernel_rfl⟩
  intro m0 hm0
  refine TrK.round hm0 (by kernel_rfl) fun m0 hm0 => ?_
  unfold indexUnfine_l1 at h
  rcases bifSome h with ⟨c0, h⟩ | ⟨c0, h⟩
  · obtain ⟨g0, h⟩ := guardSome h
    obtain ⟨y1, hy1, h⟩ := bindSome h
    rcases bifSome h with ⟨c1, h⟩ | ⟨c1, h⟩
    · obtain rfl := Option.some.inj h
      exact TrK.e hX sch_indexUnfine 19 [4] [] [] (.o 9 (DLe.bool c0) <| .g g0 <| .c (ES.frameB (unfine_ok (l.getD ((x8).toNat) default) q hy1) [] (by kernel_rfl)) <| .o 16 (DLe.bool c1) <| .e) [] .e (by kernel_rfl)
    · obtain ⟨g1, h⟩ := guardSome h
      exact TrK.g hX sch_indexUnfine 20 [0, 1, 7, 8] [] [] (.o 9 (DLe.bool c0) <| .g g0 <| .c (ES.frameB (unfine_ok (l.getD ((x8).toNat) default) q hy1) [] (by kernel_rfl)) <| .o 16 (DLe.bool c1) <| .o 18 (wr64 g1) <| .e) (hself (.l1 (x8 + 1)) r h m0 hm0) (by kernel_rfl) (by kernel_rfl)
  · cases h
    exact TrK.e hX sch_indexUnfine 12 [4] [] [] (.o 9 (DLe.bool c0) <| .e) [] .e (by kernel_rfl)
theorem indexUnfine_all (B : Nat) (N : Yard Tryd.prog GG 0) (l : List ConsD) (q : ProbD) : ∀ (n : Nat) (pt : indexUnfinePt) (r : Int), indexUnfine_m l q n pt = some r → indexUnfine_at n B N l q r pt
  | 0, _, _, h => by cases h
  | n + 1, .l1 x8, r, h => indexUnfine_p1 n B N (indexUnfine_m l q n) l q (indexUnfine_all B N l q n) x8 r h
set_option maxRecDepth 100000 in
set_option maxHeartbeats 4000000 in
theorem indexUnfine_ok {n : Nat} (l : List ConsD) (q : ProbD) {r : Int} (h : indexUnfine n l q = some r) : ES Tryd.prog GG 55 [.sl 9 l.length (rowE consC l), .fn 34 1 (L1 [.fp 5 (L1 (probC q))])] [] (.int .i64 r) [] true := by
  have hX : HX Fence.wide Tryd.prog := ⟨FOk.wide, by kernel_rfl⟩
  refine ES.of_trk Tryd.func55 (by kernel_rfl) (by kernel_rfl) noIter_nil (fun _ => rfl) fun B N => ?_
  have hself := indexUnfine_all B N l q n
  unfold indexUnfine at h
  generalize indexUnfine_m l q n = self at h hself
  unfold indexUnfine_l0 at h
  exact TrK.g hX sch_indexUnfine 11 [0, 1, 7, 8] [] [] .e (TrK.enter n (by kernel_rfl) (hself (.l1 0) r h n (Nat.le_refl _))) (by kernel_rfl) (by kernel_rfl)


def sch_containsUnfine : Sch := fun i => match i with
  | _ => .no
def containsUnfine_l0 (n : Nat) (l : List ConsD) (q : ProbD) : Option Bool :=
  (indexUnfine n l q).bind fun y1 =>
   some (decide (y1 ≥ 0))
def containsUnfine (n : Nat) (l : List ConsD) (q : ProbD) : Option Bool := containsUnfine_l0 n l q
set_option maxRecDepth 100000 in
set_option maxHeartbeats 4000000 in
theorem containsUnfine_ok {n : Nat} (l : List ConsD) (q : ProbD) {r : Bool} (h : containsUnfine n l q = some r) : ES Tryd.prog GG 33 [.sl 9 l.length (rowE consC l), .fn 34 1 (L1 [.fp 5 (L1 (probC q))])] [] (.bool r) [] true := by
  have hX : HX Fence.wide Tryd.prog := ⟨FOk.wide, by kernel_rfl⟩
  refine ES.of_trk Tryd.func33 (by kernel_rfl) (by kernel_rfl) noIter_nil (fun _ => rfl) fun B N => ?_
  unfold containsUnfine at h
  unfold containsUnfine_l0 at h
  obtain ⟨y1, hy1, h⟩ := bindSome h
  cases h
  exact TrK.e hX sch_containsUnfine 9 [4] [] [] (.c (ES.frameB (indexUnfine_ok l q hy1) [] (by kernel_rfl)) <| .e) [] .e (by kernel_rfl)


def sch_valid : Sch := fun i => match i with
  | _ => .no
def valid_l0 (n : Nat) (q : ProbD) : Option Int :=
  bif (decide (q.cells < 1)) then
   some 191
  else
   bif (decide (q.cells > 256)) then
    some 191
   else
    bif (decide (q.symbols < 1)) then
     some 191
    else
     bif (decide (q.symbols > 16)) then
      some 191
     else
      bif (((q.values.length : Nat) : Int) != q.symbols) then
       some 191
      else
       (pzwithin n q.values 0 99).bind fun y1 =>
        bif (!y1) then
         some 191
        else
         bif (((q.nbrs.length : Nat) : Int) != q.cells) then
          some 191
         else
          (gcheck n q.nbrs).bind fun y2 =>
           bif (y2 != 0) then
            some 191
           else
            bif (decide (((q.cons.length : Nat) : Int) > 4096)) then
             some 191
            else
             (containsUnfine n q.cons q).bind fun y3 =>
              bif y3 then
               some 191
              else
               some 0
def valid (n : Nat) (q : ProbD) : Option Int := valid_l0 n q
set_option maxRecDepth 100000 in
set_option maxHeartbeats 4000000 in
theorem valid_ok {n : Nat} (q : ProbD) {r : Int} (h : valid n q = some r) : ES Tryd.prog GG 22 [.agg 5 (L1 (probC q))] [] (.int .i64 r) [] true := by
  have hX : HX Fence.wide Tryd.prog := ⟨FOk.wide, by kernel_rfl⟩
  refine ES.of_trk Tryd.func22 (by kernel_rfl) (by kernel_rfl) noIter_nil (fun _ => rfl) fun B N => ?_
  unfold valid at h
  unfold valid_l0 at h
  rcases bifSome h with ⟨c0, h⟩ | ⟨c0, h⟩
  · obtain rfl := Option.some.inj h
    exact TrK.e hX sch_valid 13 [2] [] [] (.o 5 (DLe.bool c0) <| .e) [] .e (by kernel_rfl)
  · rcases bifSome h with ⟨c1, h⟩ | ⟨c1, h⟩
    · obtain rfl := Option.some.inj h
      exact TrK.e hX sch_valid 13 [2] [] [] (.o 5 (DLe.bool c0) <| .o 9 (DLe.bool c1) <| .e) [] .e (by kernel_rfl)
    · rcases bifSome h with ⟨c2, h⟩ | ⟨c2, h⟩
      · obtain rfl := Option.some.inj h
        exact TrK.e hX sch_valid 13 [2] [] [] (.o 5 (DLe.bool c0) <| .o 9 (DLe.bool c1) <| .o 14 (DLe.bool c2) <| .e) [] .e (by kernel_rfl)
      · rcases bifSome h with ⟨c3, h⟩ | ⟨c3, h⟩
        · obtain rfl := Option.some.inj h
          exact TrK.e hX sch_valid 13 [2] [] [] (.o 5 (DLe.bool c0) <| .o 9 (DLe.bool c1) <| .o 14 (DLe.bool c2) <| .o 19 (DLe.bool c3) <| .e) [] .e (by kernel_rfl)
        · rcases bifSome h with ⟨c4, h⟩ | ⟨c4, h⟩
          · obtain rfl := Option.some.inj h
            exact TrK.e hX sch_valid 13 [2] [] [] (.o 5 (DLe.bool c0) <| .o 9 (DLe.bool c1) <| .o 14 (DLe.bool c2) <| .o 19 (DLe.bool c3) <| .o 27 (DLe.bool c4) <| .e) [] .e (by kernel_rfl)
          · obtain ⟨y1, hy1, h⟩ := bindSome h
            rcases bifSome h with ⟨c5, h⟩ | ⟨c5, h⟩
            · obtain rfl := Option.some.inj h
              exact TrK.e hX sch_valid 13 [2] [] [] (.o 5 (DLe.bool c0) <| .o 9 (DLe.bool c1) <| .o 14 (DLe.bool c2) <| .o 19 (DLe.bool c3) <| .o 27 (DLe.bool c4) <| .c (ES.frameB (pzwithin_ok q.values 0 99 hy1) [some (.cells (probC q))] (by kernel_rfl)) <| .o 33 (DLe.bool c5) <| .e) [] .e (by kernel_rfl)
            · rcases bifSome h with ⟨c6, h⟩ | ⟨c6, h⟩
              · obtain rfl := Option.some.inj h
                exact TrK.e hX sch_valid 18 [2] [] [] (.o 5 (DLe.bool c0) <| .o 9 (DLe.bool c1) <| .o 14 (DLe.bool c2) <| .o 19 (DLe.bool c3) <| .o 27 (DLe.bool c4) <| .c (ES.frameB (pzwithin_ok q.values 0 99 hy1) [some (.cells (probC q))] (by kernel_rfl)) <| .o 33 (DLe.bool c5) <| .o 40 (DLe.bool c6) <| .e) [] .e (by kernel_rfl)
              · obtain ⟨y2, hy2, h⟩ := bindSome h
                rcases bifSome h with ⟨c7, h⟩ | ⟨c7, h⟩
                · obtain rfl := Option.some.inj h
                  exact TrK.e hX sch_valid 18 [2] [] [] (.o 5 (DLe.bool c0) <| .o 9 (DLe.bool c1) <| .o 14 (DLe.bool c2) <| .o 19 (DLe.bool c3) <| .o 27 (DLe.bool c4) <| .c (ES.frameB (pzwithin_ok q.values 0 99 hy1) [some (.cells (probC q))] (by kernel_rfl)) <| .o 33 (DLe.bool c5) <| .o 40 (DLe.bool c6) <| .c (ES.frameB (gcheck_ok q.nbrs hy2) [some (.cells (probC q))] (by kernel_rfl)) <| .o 45 (DLe.bool c7) <| .e) [] .e (by kernel_rfl)
                · rcases bifSome h with ⟨c8, h⟩ | ⟨c8, h⟩
                  · obtain rfl := Option.some.inj h
                    exact TrK.e hX sch_valid 18 [2] [] [] (.o 5 (DLe.bool c0) <| .o 9 (DLe.bool c1) <| .o 14 (DLe.bool c2) <| .o 19 (DLe.bool c3) <| .o 27 (DLe.bool c4) <| .c (ES.frameB (pzwithin_ok q.values 0 99 hy1) [some (.cells (probC q))] (by kernel_rfl)) <| .o 33 (DLe.bool c5) <| .o 40 (DLe.bool c6) <| .c (ES.frameB (gcheck_ok q.nbrs hy2) [some (.cells (probC q))] (by kernel_rfl)) <| .o 45 (DLe.bool c7) <| .o 51 (DLe.bool c8) <| .e) [] .e (by kernel_rfl)
                  · obtain ⟨y3, hy3, h⟩ := bindSome h
                    rcases bifSome h with ⟨c9, h⟩ | ⟨c9, h⟩
                    · obtain rfl := Option.some.inj h
                      exact TrK.e hX sch_valid 23 [2] [] [] (.o 5 (DLe.bool c0) <| .o 9 (DLe.bool c1) <| .o 14 (DLe.bool c2) <| .o 19 (DLe.bool c3) <| .o 27 (DLe.bool c4) <| .c (ES.frameB (pzwithin_ok q.values 0 99 hy1) [some (.cells (probC q))] (by kernel_rfl)) <| .o 33 (DLe.bool c5) <| .o 40 (DLe.bool c6) <| .c (ES.frameB (gcheck_ok q.nbrs hy2) [some (.cells (probC q))] (by kernel_rfl)) <| .o 45 (DLe.bool c7) <| .o 51 (DLe.bool c8) <| .c (ES.snapB (ds := [.sl 9 q.cons.length (rowE consC q.cons), .fn 34 1 (L1 [.ref 0 0])]) (containsUnfine_ok q.cons q hy3) [some (.cells (probC q))] ⟨Snap.plain (by kernel_rfl), (Snap.fnL (l := [.ref 0 0]) (l0 := [.fp 5 (L1 (probC q))]) ⟨(Snap.refL (l := (probC q)) (l0 := (probC q)) rfl ⟨Snap.plain (by kernel_rfl), Snap.plain (by kernel_rfl), Snap.plain (by kernel_rfl), Snap.plain (by kernel_rfl), Snap.plain (by kernel_rfl), trivial⟩), trivial⟩), trivial⟩ (by kernel_rfl)) <| .o 56 (DLe.bool c9) <| .e) [] .e (by kernel_rfl)
                    · obtain rfl := Option.some.inj h
                      exact TrK.e hX sch_valid 24 [2] [] [] (.o 5 (DLe.bool c0) <| .o 9 (DLe.bool c1) <| .o 14 (DLe.bool c2) <| .o 19 (DLe.bool c3) <| .o 27 (DLe.bool c4) <| .c (ES.frameB (pzwithin_ok q.values 0 99 hy1) [some (.cells (probC q))] (by kernel_rfl)) <| .o 33 (DLe.bool c5) <| .o 40 (DLe.bool c6) <| .c (ES.frameB (gcheck_ok q.nbrs hy2) [some (.cells (probC q))] (by kernel_rfl)) <| .o 45 (DLe.bool c7) <| .o 51 (DLe.bool c8) <| .c (ES.snapB (ds := [.sl 9 q.cons.length (rowE consC q.cons), .fn 34 1 (L1 [.ref 0 0])]) (containsUnfine_ok q.cons q hy3) [some (.cells (probC q))] ⟨Snap.plain (by kernel_rfl), (Snap.fnL (l := [.ref 0 0]) (l0 := [.fp 5 (L1 (probC q))]) ⟨(Snap.refL (l := (probC q)) (l0 := (probC q)) rfl ⟨Snap.plain (by kernel_rfl), Snap.plain (by kernel_rfl), Snap.plain (by kernel_rfl), Snap.plain (by kernel_rfl), Snap.plain (by kernel_rfl), trivial⟩), trivial⟩), trivial⟩ (by kernel_rfl)) <| .o 56 (DLe.bool c9) <| .e) [] .e (by kernel_rfl)


def sch_levelP : Sch := fun i => match i with
  | _ => .no
def levelP_l0 (n : Nat) (q : ProbD) (i : Int) : Option (Int × Int) :=
  (valid n q).bind fun y1 =>
   bif (y1 != 0) then
    some (0, y1)
   else
    bif (decide (i < 0)) then
     some (0, 260)
    else
     bif (decide (i ≥ ((q.cons.length : Nat) : Int))) then
      some (0, 260)
     else
      if ((0 : Int) ≤ i ∧ i < ((q.cons.length : Nat) : Int)) ∧ ((0 : Int) ≤ ((q.cons.getD ((i).toNat) default).kind) ∧ ((q.cons.getD ((i).toNat) default).kind) < ((10 : Nat) : Int)) then
       some (([0, 1, 1, 2, 2, 3, 1, 1, 4, 4] : List Int).getD ((q.cons.getD ((i).toNat) default).kind).toNat 0, 0)
      else none
def levelP (n : Nat) (q : ProbD) (i : Int) : Option (Int × Int) := levelP_l0 n q i
set_option maxRecDepth 100000 in
set_option maxHeartbeats 4000000 in
theorem levelP_ok {n : Nat} (q : ProbD) (i : Int) {r : Int × Int} (h : levelP n q i = some r) : ES Tryd.prog GG 9 [.agg 5 (L1 (probC q)), .int .i64 i] [] (.tup 2 (L1 [.int .i64 r.1, .int .i64 r.2])) [] true := by
  have hX : HX Fence.wide Tryd.prog := ⟨FOk.wide, by kernel_rfl⟩
  refine ES.of_trk Tryd.func9 (by kernel_rfl) (by kernel_rfl) noIter_nil (fun _ => rfl) fun B N => ?_
  unfold levelP at h
  unfold levelP_l0 at h
  obtain ⟨y1, hy1, h⟩ := bindSome h
  rcases bifSome h with ⟨c0, h⟩ | ⟨c0, h⟩
  · cases h
    exact TrK.e hX sch_levelP 15 [4, 5] [] [] (.c (ES.frameB (valid_ok q hy1) [some (.cells (probC q))] (by kernel_rfl)) <| .o 10 (DLe.bool c0) <| .e) [] .e (by kernel_rfl)
  · rcases bifSome h with ⟨c1, h⟩ | ⟨c1, h⟩
    · cases h
      exact TrK.e hX sch_levelP 20 [4, 5] [] [] (.c (ES.frameB (valid_ok q hy1) [some (.cells (probC q))] (by kernel_rfl)) <| .o 10 (DLe.bool c0) <| .o 13 (DLe.bool c1) <| .e) [] .e (by kernel_rfl)
    · rcases bifSome h with ⟨c2, h⟩ | ⟨c2, h⟩
      · cases h
        exact TrK.e hX sch_levelP 20 [4, 5] [] [] (.c (ES.frameB (valid_ok q hy1) [some (.cells (probC q))] (by kernel_rfl)) <| .o 10 (DLe.bool c0) <| .o 13 (DLe.bool c1) <| .o 19 (DLe.bool c2) <| .e) [] .e (by kernel_rfl)
      · obtain ⟨⟨g0, g1⟩, h⟩ := guardSome h
        cases h
        exact TrK.e hX sch_levelP 21 [4, 5] [] [] (.c (ES.frameB (valid_ok q hy1) [some (.cells (probC q))] (by kernel_rfl)) <| .o 10 (DLe.bool c0) <| .o 13 (DLe.bool c1) <| .o 19 (DLe.bool c2) <| .g g0 <| .g g1 <| .o 28 (DLe.ixI [0, 1, 1, 2, 2, 3, 1, 1, 4, 4] rfl g1) <| .e) [] .e (by kernel_rfl)


def sch_rfine : Sch := fun i => match i with
  | _ => .no
inductive rfinePt where
  | l1 (x7 : Int)
def rfine_l1 (n : Nat) (self : rfinePt → Option Bool) (c_ : ConsD) (cells symbols : Int) (x7 : Int) : Option Bool :=
  bif (decide (x7 < ((c_.cells.length : Nat) : Int))) then
   bif (c_.kind == 8) then
    if (0 : Int) ≤ x7 ∧ x7 < ((c_.cells.length : Nat) : Int) then
     bif ((c_.cells.getD ((x7).toNat) 0) != x7) then
      some false
     else
      if R64 (x7 + 1) then
       self (.l1 (x7 + 1))
      else none
    else none
   else
    bif (c_.kind == 9) then
     if (0 : Int) ≤ x7 ∧ x7 < ((c_.cells.length : Nat) : Int) then
      bif ((c_.cells.getD ((x7).toNat) 0) != x7) then
       some false
      else
       if R64 (x7 + 1) then
        self (.l1 (x7 + 1))
       else none
     else none
    else
     if R64 (x7 + 1) then
      self (.l1 (x7 + 1))
     else none
  else
   if ((0 : Int) ≤ symbols ∧ symbols ≤ ((IntKind.i64.bits : Nat) : Int)) ∧ R64 ((IntKind.i64.wrap (1 * 2 ^ (symbols).toNat)) - 1) then
    (between n ([c_.set, c_.other] : List Int) 0 ((IntKind.i64.wrap (1 * 2 ^ (symbols).toNat)) - 1)).bind fun y1 =>
     bif y1 then
      (between n ([c_.lo, c_.hi] : List Int) 0 65536).bind fun y2 =>
       bif y2 then
        bif (decide (((c_.runs.length : Nat) : Int) ≤ 8)) then
         (between n c_.runs 1 256).bind fun y3 =>
          some y3
        else
         some false
       else
        some false
     else
      some false
   else none
def rfine_l0 (n : Nat) (self : rfinePt → Option Bool) (c_ : ConsD) (cells symbols : Int) : Option Bool :=
  bif (decide (c_.kind < 1)) then
   some false
  else
   bif (decide (c_.kind > 9)) then
    some false
   else
    bif (decide (((c_.cells.length : Nat) : Int) > cells)) then
     some false
    else
     if R64 (cells - 1) then
      (between n c_.cells 0 (cells - 1)).bind fun y1 =>
       bif (!y1) then
        some false
       else
        (different n c_.cells).bind fun y2 =>
         bif (!y2) then
          some false
         else
          bif (c_.kind == 6) then
           bif (((c_.cells.length : Nat) : Int) != 2) then
            some false
           else
            bif (c_.kind == 8) then
             bif (((c_.cells.length : Nat) : Int) != cells) then
              some false
             else
              self (.l1 0)
            else
             bif (c_.kind == 9) then
              bif (((c_.cells.length : Nat) : Int) != cells) then
               some false
              else
               self (.l1 0)
             else
              self (.l1 0)
          else
           bif (c_.kind == 7) then
            bif (((c_.cells.length : Nat) : Int) != 2) then
             some false
            else
             bif (c_.kind == 8) then
              bif (((c_.cells.length : Nat) : Int) != cells) then
               some false
              else
               self (.l1 0)
             else
              bif (c_.kind == 9) then
               bif (((c_.cells.length : Nat) : Int) != cells) then
                some false
               else
                self (.l1 0)
              else
               self (.l1 0)
           else
            bif (c_.kind == 8) then
             bif (((c_.cells.length : Nat) : Int) != cells) then
              some false
             else
              self (.l1 0)
            else
             bif (c_.kind == 9) then
              bif (((c_.cells.length : Nat) : Int) != cells) then
               some false
              else
               self (.l1 0)
             else
              self (.l1 0)
     else none
def rfine_m (c_ : ConsD) (cells symbols : Int) : Nat → rfinePt → Option Bool
  | 0, _ => none
  | n + 1, .l1 x7 => rfine_l1 n (rfine_m c_ cells symbols n) c_ cells symbols x7
def rfine (n : Nat) (c_ : ConsD) (cells symbols : Int) : Option Bool := rfine_l0 n (rfine_m c_ cells symbols n) c_ cells symbols
/-- What the points stand for. -/
def rfine_at (n : Nat) (B : Nat) (N : Yard Tryd.prog GG 0) (c_ : ConsD) (cells symbols : Int) (r : Bool) : rfinePt → Prop
  | .l1 x7 => ∀ m0 : Nat, n ≤ m0 → TrK Tryd.prog GG Fence.wide (some B) 0 N (Fin Tryd.prog Tryd.f38 0 (.bool r) []) (toN m0 (atNC (bodyC Tryd.f38) 0 [])) ⟨frm 120 [(2, .int .i64 symbols), (3, .ref 0 0), (7, .int .i64 x7)], [some (.cells (consC c_))]⟩
set_option maxRecDepth 100000 in
set_option maxHeartbeats 4000000 in
theorem rfine_p1 (n B : Nat) (N : Yard Tryd.prog GG 0) (self : rfinePt → Option Bool) (c_ : ConsD) (cells symbols : Int) (hself : ∀ pt r, self pt = some r → rfine_at n B N c_ cells symbols r pt) (x7 : Int) (r : Bool) (h : rfine_l1 n self c_ cells symbols x7 = some r) : rfine_at (n + 1) B N c_ cells symbols r (.l1 x7) := by
  have hX : HX Fence.wide Tryd.prog := ⟨FOk.wide, by kernel_rfl⟩
  intro m0 hm0
  refine TrK.round hm0 (by kernel_rfl) fun m0 hm0 => ?_
  unfold rfine_l1 at h
  rcases bifSome h with ⟨c0, h⟩ | ⟨c0, h⟩
  · rcases bifSome h with ⟨c1, h⟩ | ⟨c1, h⟩
    · obtain ⟨g0, h⟩ := guardSome h
      rcases bifSome h with ⟨c2, h⟩ | ⟨c2, h⟩
      · obtain rfl := Option.some.inj h
        exact TrK.e hX sch_rfine 17 [6] [] [] (.o 71 (DLe.bool c0) <| .o 76 (DLe.bool c1) <| .g g0 <| .o 89 (DLe.bool c2) <| .e) [] .e (by kernel_rfl)
      · obtain ⟨g1, h⟩ := guardSome h
        exact TrK.g hX sch_rfine 18 [2, 3, 7] [0] [] (.o 71 (DLe.bool c0) <| .o 76 (DLe.bool c1) <| .g g0 <| .o 89 (DLe.bool c2) <| .o 73 (wr64 g1) <| .e) (hself (.l1 (x7 + 1)) r h m0 hm0) (by kernel_rfl) (by kernel_rfl)
    · rcases bifSome h with ⟨c2, h⟩ | ⟨c2, h⟩
      · obtain ⟨g0, h⟩ := guardSome h
        rcases bifSome h with ⟨c3, h⟩ | ⟨c3, h⟩
        · obtain rfl := Option.some.inj h
          exact TrK.e hX sch_rfine 17 [6] [] [] (.o 71 (DLe.bool c0) <| .o 76 (DLe.bool c1) <| .o 80 (DLe.bool c2) <| .g g0 <| .o 89 (DLe.bool c3) <| .e) [] .e (by kernel_rfl)
        · obtain ⟨g1, h⟩ := guardSome h
          exact TrK.g hX sch_rfine 18 [2, 3, 7] [0] [] (.o 71 (DLe.bool c0) <| .o 76 (DLe.bool c1) <| .o 80 (DLe.bool c2) <| .g g0 <| .o 89 (DLe.bool c3) <| .o 73 (wr64 g1) <| .e) (hself (.l1 (x7 + 1)) r h m0 hm0) (by kernel_rfl) (by kernel_rfl)
      · obtain ⟨g0, h⟩ := guardSome h
        exact TrK.g hX sch_rfine 18 [2, 3, 7] [0] [] (.o 71 (DLe.bool c0) <| .o 76 (DLe.bool c1) <| .o 80 (DLe.bool c2) <| .o 73 (wr64 g0) <| .e) (hself (.l1 (x7 + 1)) r h m0 hm0) (by kernel_rfl) (by kernel_rfl)
  · obtain ⟨⟨g0, g1⟩, h⟩ := guardSome h
    obtain ⟨y1, hy1, h⟩ := bindSome h
    rcases bifSome h with ⟨c1, h⟩ | ⟨c1, h⟩
    · obtain ⟨y2, hy2, h⟩ := bindSome h
      rcases bifSome h with ⟨c2, h⟩ | ⟨c2, h⟩
      · rcases bifSome h with ⟨c3, h⟩ | ⟨c3, h⟩
        · obtain ⟨y3, hy3, h⟩ := bindSome h
          obtain rfl := Option.some.inj h
          exact TrK.e hX sch_rfine 14 [6] [] [] (.o 71 (DLe.bool c0) <| .g g0 <| .o 93 (wr64 g1) <| .c (ES.snapB (ds := [.msl 1 1 0 2, .int .i64 0, .int .i64 ((IntKind.i64.wrap (1 * 2 ^ (symbols).toNat)) - 1)]) (between_ok ([c_.set, c_.other] : List Int) 0 ((IntKind.i64.wrap (1 * 2 ^ (symbols).toNat)) - 1) hy1) [some (.cells (consC c_)), some (.ints ([c_.set, c_.other] : List Int))] ⟨Snap.ints rfl (Eq.refl 2), Snap.plain (by kernel_rfl), Snap.plain (by kernel_rfl), trivial⟩ (by kernel_rfl)) <| .o 100 (DLe.bool c1) <| .c (ES.snapB (ds := [.msl 2 1 0 2, .int .i64 0, .int .i64 65536]) (between_ok ([c_.lo, c_.hi] : List Int) 0 65536 hy2) [some (.cells (consC c_)), some (.ints ([c_.set, c_.other] : List Int)), some (.ints ([c_.lo, c_.hi] : List Int))] ⟨Snap.ints rfl (Eq.refl 2), Snap.plain (by kernel_rfl), Snap.plain (by kernel_rfl), trivial⟩ (by kernel_rfl)) <| .o 107 (DLe.bool c2) <| .o 113 (DLe.bool c3) <| .c (ES.frameB (between_ok c_.runs 1 256 hy3) [some (.cells (consC c_)), some (.ints ([c_.set, c_.other] : List Int)), some (.ints ([c_.lo, c_.hi] : List Int))] (by kernel_rfl)) <| .e) [] .e (by kernel_rfl)
        · obtain rfl := Option.some.inj h
          exact TrK.e hX sch_rfine 14 [6] [] [] (.o 71 (DLe.bool c0) <| .g g0 <| .o 93 (wr64 g1) <| .c (ES.snapB (ds := [.msl 1 1 0 2, .int .i64 0, .int .i64 ((IntKind.i64.wrap (1 * 2 ^ (symbols).toNat)) - 1)]) (between_ok ([c_.set, c_.other] : List Int) 0 ((IntKind.i64.wrap (1 * 2 ^ (symbols).toNat)) - 1) hy1) [some (.cells (consC c_)), some (.ints ([c_.set, c_.other] : List Int))] ⟨Snap.ints rfl (Eq.refl 2), Snap.plain (by kernel_rfl), Snap.plain (by kernel_rfl), trivial⟩ (by kernel_rfl)) <| .o 100 (DLe.bool c1) <| .c (ES.snapB (ds := [.msl 2 1 0 2, .int .i64 0, .int .i64 65536]) (between_ok ([c_.lo, c_.hi] : List Int) 0 65536 hy2) [some (.cells (consC c_)), some (.ints ([c_.set, c_.other] : List Int)), some (.ints ([c_.lo, c_.hi] : List Int))] ⟨Snap.ints rfl (Eq.refl 2), Snap.plain (by kernel_rfl), Snap.plain (by kernel_rfl), trivial⟩ (by kernel_rfl)) <| .o 107 (DLe.bool c2) <| .o 113 (DLe.bool c3) <| .e) [] .e (by kernel_rfl)
      · obtain rfl := Option.some.inj h
        exact TrK.e hX sch_rfine 14 [6] [] [] (.o 71 (DLe.bool c0) <| .g g0 <| .o 93 (wr64 g1) <| .c (ES.snapB (ds := [.msl 1 1 0 2, .int .i64 0, .int .i64 ((IntKind.i64.wrap (1 * 2 ^ (symbols).toNat)) - 1)]) (between_ok ([c_.set, c_.other] : List Int) 0 ((IntKind.i64.wrap (1 * 2 ^ (symbols).toNat)) - 1) hy1) [some (.cells (consC c_)), some (.ints ([c_.set, c_.other] : List Int))] ⟨Snap.ints rfl (Eq.refl 2), Snap.plain (by kernel_rfl), Snap.plain (by kernel_rfl), trivial⟩ (by kernel_rfl)) <| .o 100 (DLe.bool c1) <| .c (ES.snapB (ds := [.msl 2 1 0 2, .int .i64 0, .int .i64 65536]) (between_ok ([c_.lo, c_.hi] : List Int) 0 65536 hy2) [some (.cells (consC c_)), some (.ints ([c_.set, c_.other] : List Int)), some (.ints ([c_.lo, c_.hi] : List Int))] ⟨Snap.ints rfl (Eq.refl 2), Snap.plain (by kernel_rfl), Snap.plain (by kernel_rfl), trivial⟩ (by kernel_rfl)) <| .o 107 (DLe.bool c2) <| .e) [] .e (by kernel_rfl)
    · obtain rfl := Option.some.inj h
      exact TrK.e hX sch_rfine 14 [6] [] [] (.o 71 (DLe.bool c0) <| .g g0 <| .o 93 (wr64 g1) <| .c (ES.snapB (ds := [.msl 1 1 0 2, .int .i64 0, .int .i64 ((IntKind.i64.wrap (1 * 2 ^ (symbols).toNat)) - 1)]) (between_ok ([c_.set, c_.other] : List Int) 0 ((IntKind.i64.wrap (1 * 2 ^ (symbols).toNat)) - 1) hy1) [some (.cells (consC c_)), some (.ints ([c_.set, c_.other] : List Int))] ⟨Snap.ints rfl (Eq.refl 2), Snap.plain (by kernel_rfl), Snap.plain (by kernel_rfl), trivial⟩ (by kernel_rfl)) <| .o 100 (DLe.bool c1) <| .e) [] .e (by kernel_rfl)
theorem rfine_all (B : Nat) (N : Yard Tryd.prog GG 0) (c_ : ConsD) (cells symbols : Int) : ∀ (n : Nat) (pt : rfinePt) (r : Bool), rfine_m c_ cells symbols n pt = some r → rfine_at n B N c_ cells symbols r pt
  | 0, _, _, h => by cases h
  | n + 1, .l1 x7, r, h => rfine_p1 n B N (rfine_m c_ cells symbols n) c_ cells symbols (rfine_all B N c_ cells symbols n) x7 r h
set_option maxRecDepth 100000 in
set_option maxHeartbeats 4000000 in
theorem rfine_ok {n : Nat} (c_ : ConsD) (cells symbols : Int) {r : Bool} (h : rfine n c_ cells symbols = some r) : ES Tryd.prog GG 38 [.agg 9 (L1 (consC c_)), .int .i64 cells, .int .i64 symbols] [] (.bool r) [] true := by
  have hX : HX Fence.wide Tryd.prog := ⟨FOk.wide, by kernel_rfl⟩
  refine ES.of_trk Tryd.func38 (by kernel_rfl) (by kernel_rfl) noIter_nil (fun _ => rfl) fun B N => ?_
  have hself := rfine_all B N c_ cells symbols n
  unfold rfine at h
  generalize rfine_m c_ cells symbols n = self at h hself
  unfold rfine_l0 at h
  rcases bifSome h with ⟨c0, h⟩ | ⟨c0, h⟩
  · obtain rfl := Option.some.inj h
    exact TrK.e hX sch_rfine 13 [6] [] [] (.o 11 (DLe.bool c0) <| .e) [] .e (by kernel_rfl)
  · rcases bifSome h with ⟨c1, h⟩ | ⟨c1, h⟩
    · obtain rfl := Option.some.inj h
      exact TrK.e hX sch_rfine 13 [6] [] [] (.o 11 (DLe.bool c0) <| .o 15 (DLe.bool c1) <| .e) [] .e (by kernel_rfl)
    · rcases bifSome h with ⟨c2, h⟩ | ⟨c2, h⟩
      · obtain rfl := Option.some.inj h
        exact TrK.e hX sch_rfine 13 [6] [] [] (.o 11 (DLe.bool c0) <| .o 15 (DLe.bool c1) <| .o 22 (DLe.bool c2) <| .e) [] .e (by kernel_rfl)
      · obtain ⟨g0, h⟩ := guardSome h
        obtain ⟨y1, hy1, h⟩ := bindSome h
        rcases bifSome h with ⟨c3, h⟩ | ⟨c3, h⟩
        · obtain rfl := Option.some.inj h
          exact TrK.e hX sch_rfine 13 [6] [] [] (.o 11 (DLe.bool c0) <| .o 15 (DLe.bool c1) <| .o 22 (DLe.bool c2) <| .o 28 (wr64 g0) <| .c (ES.frameB (between_ok c_.cells 0 (cells - 1) hy1) [some (.cells (consC c_))] (by kernel_rfl)) <| .o 30 (DLe.bool c3) <| .e) [] .e (by kernel_rfl)
        · obtain ⟨y2, hy2, h⟩ := bindSome h
          rcases bifSome h with ⟨c4, h⟩ | ⟨c4, h⟩
          · obtain rfl := Option.some.inj h
            exact TrK.e hX sch_rfine 13 [6] [] [] (.o 11 (DLe.bool c0) <| .o 15 (DLe.bool c1) <| .o 22 (DLe.bool c2) <| .o 28 (wr64 g0) <| .c (ES.frameB (between_ok c_.cells 0 (cells - 1) hy1) [some (.cells (consC c_))] (by kernel_rfl)) <| .o 30 (DLe.bool c3) <| .c (ES.frameB (different_ok c_.cells hy2) [some (.cells (consC c_))] (by kernel_rfl)) <| .o 36 (DLe.bool c4) <| .e) [] .e (by kernel_rfl)
          · rcases bifSome h with ⟨c5, h⟩ | ⟨c5, h⟩
            · rcases bifSome h with ⟨c6, h⟩ | ⟨c6, h⟩
              · obtain rfl := Option.some.inj h
                exact TrK.e hX sch_rfine 18 [6] [] [] (.o 11 (DLe.bool c0) <| .o 15 (DLe.bool c1) <| .o 22 (DLe.bool c2) <| .o 28 (wr64 g0) <| .c (ES.frameB (between_ok c_.cells 0 (cells - 1) hy1) [some (.cells (consC c_))] (by kernel_rfl)) <| .o 30 (DLe.bool c3) <| .c (ES.frameB (different_ok c_.cells hy2) [some (.cells (consC c_))] (by kernel_rfl)) <| .o 36 (DLe.bool c4) <| .o 40 (DLe.bool c5) <| .o 50 (DLe.bool c6) <| .e) [] .e (by kernel_rfl)
              · rcases bifSome h with ⟨c7, h⟩ | ⟨c7, h⟩
                · rcases bifSome h with ⟨c8, h⟩ | ⟨c8, h⟩
                  · obtain rfl := Option.some.inj h
                    exact TrK.e hX sch_rfine 23 [6] [] [] (.o 11 (DLe.bool c0) <| .o 15 (DLe.bool c1) <| .o 22 (DLe.bool c2) <| .o 28 (wr64 g0) <| .c (ES.frameB (between_ok c_.cells 0 (cells - 1) hy1) [some (.cells (consC c_))] (by kernel_rfl)) <| .o 30 (DLe.bool c3) <| .c (ES.frameB (different_ok c_.cells hy2) [some (.cells (consC c_))] (by kernel_rfl)) <| .o 36 (DLe.bool c4) <| .o 40 (DLe.bool c5) <| .o 50 (DLe.bool c6) <| .o 54 (DLe.bool c7) <| .o 65 (DLe.bool c8) <| .e) [] .e (by kernel_rfl)
                  · exact TrK.g hX sch_rfine 26 [2, 3, 7] [0] [] (.o 11 (DLe.bool c0) <| .o 15 (DLe.bool c1) <| .o 22 (DLe.bool c2) <| .o 28 (wr64 g0) <| .c (ES.frameB (between_ok c_.cells 0 (cells - 1) hy1) [some (.cells (consC c_))] (by kernel_rfl)) <| .o 30 (DLe.bool c3) <| .c (ES.frameB (different_ok c_.cells hy2) [some (.cells (consC c_))] (by kernel_rfl)) <| .o 36 (DLe.bool c4) <| .o 40 (DLe.bool c5) <| .o 50 (DLe.bool c6) <| .o 54 (DLe.bool c7) <| .o 65 (DLe.bool c8) <| .e) (TrK.enter n (by kernel_rfl) (hself (.l1 0) r h n (Nat.le_refl _))) (by kernel_rfl) (by kernel_rfl)
                · rcases bifSome h with ⟨c8, h⟩ | ⟨c8, h⟩
                  · rcases bifSome h with ⟨c9, h⟩ | ⟨c9, h⟩
                    · obtain rfl := Option.some.inj h
                      exact TrK.e hX sch_rfine 23 [6] [] [] (.o 11 (DLe.bool c0) <| .o 15 (DLe.bool c1) <| .o 22 (DLe.bool c2) <| .o 28 (wr64 g0) <| .c (ES.frameB (between_ok c_.cells 0 (cells - 1) hy1) [some (.cells (consC c_))] (by kernel_rfl)) <| .o 30 (DLe.bool c3) <| .c (ES.frameB (different_ok c_.cells hy2) [some (.cells (consC c_))] (by kernel_rfl)) <| .o 36 (DLe.bool c4) <| .o 40 (DLe.bool c5) <| .o 50 (DLe.bool c6) <| .o 54 (DLe.bool c7) <| .o 58 (DLe.bool c8) <| .o 65 (DLe.bool c9) <| .e) [] .e (by kernel_rfl)
                    · exact TrK.g hX sch_rfine 26 [2, 3, 7] [0] [] (.o 11 (DLe.bool c0) <| .o 15 (DLe.bool c1) <| .o 22 (DLe.bool c2) <| .o 28 (wr64 g0) <| .c (ES.frameB (between_ok c_.cells 0 (cells - 1) hy1) [some (.cells (consC c_))] (by kernel_rfl)) <| .o 30 (DLe.bool c3) <| .c (ES.frameB (different_ok c_.cells hy2) [some (.cells (consC c_))] (by kernel_rfl)) <| .o 36 (DLe.bool c4) <| .o 40 (DLe.bool c5) <| .o 50 (DLe.bool c6) <| .o 54 (DLe.bool c7) <| .o 58 (DLe.bool c8) <| .o 65 (DLe.bool c9) <| .e) (TrK.enter n (by kernel_rfl) (hself (.l1 0) r h n (Nat.le_refl _))) (by kernel_rfl) (by kernel_rfl)
                  · exact TrK.g hX sch_rfine 26 [2, 3, 7] [0] [] (.o 11 (DLe.bool c0) <| .o 15 (DLe.bool c1) <| .o 22 (DLe.bool c2) <| .o 28 (wr64 g0) <| .c (ES.frameB (between_ok c_.cells 0 (cells - 1) hy1) [some (.cells (consC c_))] (by kernel_rfl)) <| .o 30 (DLe.bool c3) <| .c (ES.frameB (different_ok c_.cells hy2) [some (.cells (consC c_))] (by kernel_rfl)) <| .o 36 (DLe.bool c4) <| .o 40 (DLe.bool c5) <| .o 50 (DLe.bool c6) <| .o 54 (DLe.bool c7) <| .o 58 (DLe.bool c8) <| .e) (TrK.enter n (by kernel_rfl) (hself (.l1 0) r h n (Nat.le_refl _))) (by kernel_rfl) (by kernel_rfl)
            · rcases bifSome h with ⟨c6, h⟩ | ⟨c6, h⟩
              · rcases bifSome h with ⟨c7, h⟩ | ⟨c7, h⟩
                · obtain rfl := Option.some.inj h
                  exact TrK.e hX sch_rfine 18 [6] [] [] (.o 11 (DLe.bool c0) <| .o 15 (DLe.bool c1) <| .o 22 (DLe.bool c2) <| .o 28 (wr64 g0) <| .c (ES.frameB (between_ok c_.cells 0 (cells - 1) hy1) [some (.cells (consC c_))] (by kernel_rfl)) <| .o 30 (DLe.bool c3) <| .c (ES.frameB (different_ok c_.cells hy2) [some (.cells (consC c_))] (by kernel_rfl)) <| .o 36 (DLe.bool c4) <| .o 40 (DLe.bool c5) <| .o 44 (DLe.bool c6) <| .o 50 (DLe.bool c7) <| .e) [] .e (by kernel_rfl)
                · rcases bifSome h with ⟨c8, h⟩ | ⟨c8, h⟩
                  · rcases bifSome h with ⟨c9, h⟩ | ⟨c9, h⟩
                    · obtain rfl := Option.some.inj h
                      exact TrK.e hX sch_rfine 23 [6] [] [] (.o 11 (DLe.bool c0) <| .o 15 (DLe.bool c1) <| .o 22 (DLe.bool c2) <| .o 28 (wr64 g0) <| .c (ES.frameB (between_ok c_.cells 0 (cells - 1) hy1) [some (.cells (consC c_))] (by kernel_rfl)) <| .o 30 (DLe.bool c3) <| .c (ES.frameB (different_ok c_.cells hy2) [some (.cells (consC c_))] (by kernel_rfl)) <| .o 36 (DLe.bool c4) <| .o 40 (DLe.bool c5) <| .o 44 (DLe.bool c6) <| .o 50 (DLe.bool c7) <| .o 54 (DLe.bool c8) <| .o 65 (DLe.bool c9) <| .e) [] .e (by kernel_rfl)
                    · exact TrK.g hX sch_rfine 26 [2, 3, 7] [0] [] (.o 11 (DLe.bool c0) <| .o 15 (DLe.bool c1) <| .o 22 (DLe.bool c2) <| .o 28 (wr64 g0) <| .c (ES.frameB (between_ok c_.cells 0 (cells - 1) hy1) [some (.cells (consC c_))] (by kernel_rfl)) <| .o 30 (DLe.bool c3) <| .c (ES.frameB (different_ok c_.cells hy2) [some (.cells (consC c_))] (by kernel_rfl)) <| .o 36 (DLe.bool c4) <| .o 40 (DLe.bool c5) <| .o 44 (DLe.bool c6) <| .o 50 (DLe.bool c7) <| .o 54 (DLe.bool c8) <| .o 65 (DLe.bool c9) <| .e) (TrK.enter n (by kernel_rfl) (hself (.l1 0) r h n (Nat.le_refl _))) (by kernel_rfl) (by kernel_rfl)
                  · rcases bifSome h with ⟨c9, h⟩ | ⟨c9, h⟩
                    · rcases bifSome h with ⟨c10, h⟩ | ⟨c10, h⟩
                      · obtain rfl := Option.some.inj h
                        exact TrK.e hX sch_rfine 23 [6] [] [] (.o 11 (DLe.bool c0) <| .o 15 (DLe.bool c1) <| .o 22 (DLe.bool c2) <| .o 28 (wr64 g0) <| .c (ES.frameB (between_ok c_.cells 0 (cells - 1) hy1) [some (.cells (consC c_))] (by kernel_rfl)) <| .o 30 (DLe.bool c3) <| .c (ES.frameB (different_ok c_.cells hy2) [some (.cells (consC c_))] (by kernel_rfl)) <| .o 36 (DLe.bool c4) <| .o 40 (DLe.bool c5) <| .o 44 (DLe.bool c6) <| .o 50 (DLe.bool c7) <| .o 54 (DLe.bool c8) <| .o 58 (DLe.bool c9) <| .o 65 (DLe.bool c10) <| .e) [] .e (by kernel_rfl)
                      · exact TrK.g hX sch_rfine 26 [2, 3, 7] [0] [] (.o 11 (DLe.bool c0) <| .o 15 (DLe.bool c1) <| .o 22 (DLe.bool c2) <| .o 28 (wr64 g0) <| .c (ES.frameB (between_ok c_.cells 0 (cells - 1) hy1) [some (.cells (consC c_))] (by kernel_rfl)) <| .o 30 (DLe.bool c3) <| .c (ES.frameB (different_ok c_.cells hy2) [some (.cells (consC c_))] (by kernel_rfl)) <| .o 36 (DLe.bool c4) <| .o 40 (DLe.bool c5) <| .o 44 (DLe.bool c6) <| .o 50 (DLe.bool c7) <| .o 54 (DLe.bool c8) <| .o 58 (DLe.bool c9) <| .o 65 (DLe.bool c10) <| .e) (TrK.enter n (by kernel_rfl) (hself (.l1 0) r h n (Nat.le_refl _))) (by kernel_rfl) (by kernel_rfl)
                    · exact TrK.g hX sch_rfine 26 [2, 3, 7] [0] [] (.o 11 (DLe.bool c0) <| .o 15 (DLe.bool c1) <| .o 22 (DLe.bool c2) <| .o 28 (wr64 g0) <| .c (ES.frameB (between_ok c_.cells 0 (cells - 1) hy1) [some (.cells (consC c_))] (by kernel_rfl)) <| .o 30 (DLe.bool c3) <| .c (ES.frameB (different_ok c_.cells hy2) [some (.cells (consC c_))] (by kernel_rfl)) <| .o 36 (DLe.bool c4) <| .o 40 (DLe.bool c5) <| .o 44 (DLe.bool c6) <| .o 50 (DLe.bool c7) <| .o 54 (DLe.bool c8) <| .o 58 (DLe.bool c9) <| .e) (TrK.enter n (by kernel_rfl) (hself (.l1 0) r h n (Nat.le_refl _))) (by kernel_rfl) (by kernel_rfl)
              · rcases bifSome h with ⟨c7, h⟩ | ⟨c7, h⟩
                · rcases bifSome h with ⟨c8, h⟩ | ⟨c8, h⟩
                  · obtain rfl := Option.some.inj h
                    exact TrK.e hX sch_rfine 23 [6] [] [] (.o 11 (DLe.bool c0) <| .o 15 (DLe.bool c1) <| .o 22 (DLe.bool c2) <| .o 28 (wr64 g0) <| .c (ES.frameB (between_ok c_.cells 0 (cells - 1) hy1) [some (.cells (consC c_))] (by kernel_rfl)) <| .o 30 (DLe.bool c3) <| .c (ES.frameB (different_ok c_.cells hy2) [some (.cells (consC c_))] (by kernel_rfl)) <| .o 36 (DLe.bool c4) <| .o 40 (DLe.bool c5) <| .o 44 (DLe.bool c6) <| .o 54 (DLe.bool c7) <| .o 65 (DLe.bool c8) <| .e) [] .e (by kernel_rfl)
                  · exact TrK.g hX sch_rfine 26 [2, 3, 7] [0] [] (.o 11 (DLe.bool c0) <| .o 15 (DLe.bool c1) <| .o 22 (DLe.bool c2) <| .o 28 (wr64 g0) <| .c (ES.frameB (between_ok c_.cells 0 (cells - 1) hy1) [some (.cells (consC c_))] (by kernel_rfl)) <| .o 30 (DLe.bool c3) <| .c (ES.frameB (different_ok c_.cells hy2) [some (.cells (consC c_))] (by kernel_rfl)) <| .o 36 (DLe.bool c4) <| .o 40 (DLe.bool c5) <| .o 44 (DLe.bool c6) <| .o 54 (DLe.bool c7) <| .o 65 (DLe.bool c8) <| .e) (TrK.enter n (by kernel_rfl) (hself (.l1 0) r h n (Nat.le_refl _))) (by kernel_rfl) (by kernel_rfl)
                · rcases bifSome h with ⟨c8, h⟩ | ⟨c8, h⟩
                  · rcases bifSome h with ⟨c9, h⟩ | ⟨c9, h⟩
                    · obtain rfl := Option.some.inj h
                      exact TrK.e hX sch_rfine 23 [6] [] [] (.o 11 (DLe.bool c0) <| .o 15 (DLe.bool c1) <| .o 22 (DLe.bool c2) <| .o 28 (wr64 g0) <| .c (ES.frameB (between_ok c_.cells 0 (cells - 1) hy1) [some (.cells (consC c_))] (by kernel_rfl)) <| .o 30 (DLe.bool c3) <| .c (ES.frameB (different_ok c_.cells hy2) [some (.cells (consC c_))] (by kernel_rfl)) <| .o 36 (DLe.bool c4) <| .o 40 (DLe.bool c5) <| .o 44 (DLe.bool c6) <| .o 54 (DLe.bool c7) <| .o 58 (DLe.bool c8) <| .o 65 (DLe.bool c9) <| .e) [] .e (by kernel_rfl)
                    · exact TrK.g hX sch_rfine 26 [2, 3, 7] [0] [] (.o 11 (DLe.bool c0) <| .o 15 (DLe.bool c1) <| .o 22 (DLe.bool c2) <| .o 28 (wr64 g0) <| .c (ES.frameB (between_ok c_.cells 0 (cells - 1) hy1) [some (.cells (consC c_))] (by kernel_rfl)) <| .o 30 (DLe.bool c3) <| .c (ES.frameB (different_ok c_.cells hy2) [some (.cells (consC c_))] (by kernel_rfl)) <| .o 36 (DLe.bool c4) <| .o 40 (DLe.bool c5) <| .o 44 (DLe.bool c6) <| .o 54 (DLe.bool c7) <| .o 58 (DLe.bool c8) <| .o 65 (DLe.bool c9) <| .e) (TrK.enter n (by kernel_rfl) (hself (.l1 0) r h n (Nat.le_refl _))) (by kernel_rfl) (by kernel_rfl)
                  · exact TrK.g hX sch_rfine 26 [2, 3, 7] [0] [] (.o 11 (DLe.bool c0) <| .o 15 (DLe.bool c1) <| .o 22 (DLe.bool c2) <| .o 28 (wr64 g0) <| .c (ES.frameB (between_ok c_.cells 0 (cells - 1) hy1) [some (.cells (consC c_))] (by kernel_rfl)) <| .o 30 (DLe.bool c3) <| .c (ES.frameB (different_ok c_.cells hy2) [some (.cells (consC c_))] (by kernel_rfl)) <| .o 36 (DLe.bool c4) <| .o 40 (DLe.bool c5) <| .o 44 (DLe.bool c6) <| .o 54 (DLe.bool c7) <| .o 58 (DLe.bool c8) <| .e) (TrK.enter n (by kernel_rfl) (hself (.l1 0) r h n (Nat.le_refl _))) (by kernel_rfl) (by kernel_rfl)


def a_rvalid_8 : Prop := SOk (regF Tryd.f23 8) [([0, 1, 2, 3, 4, 5, 6, 7, 8], 9)] [10] []
theorem s_rvalid_8 : a_rvalid_8 := by unfold a_rvalid_8 SOk; kernel_rfl
def sch_rvalid : Sch := fun i => match i with
  | 8 => .ord [([0, 1, 2, 3, 4, 5, 6, 7, 8], 9)] [10] []
  | _ => .no
inductive rvalidPt where
  | l1 (x3 : Int)
def rvalid_l1 (n : Nat) (self : rvalidPt → Option Int) (q : ProbD) (x3 : Int) : Option Int :=
  bif (decide (x3 < ((q.cons.length : Nat) : Int))) then
   if (0 : Int) ≤ x3 ∧ x3 < ((q.cons.length : Nat) : Int) then
    (rfine n (q.cons.getD ((x3).toNat) default) q.cells q.symbols).bind fun y1 =>
     bif (!y1) then
      some 191
     else
      if R64 (x3 + 1) then
       self (.l1 (x3 + 1))
      else none
   else none
  else
   some 0
def rvalid_l0 (n : Nat) (self : rvalidPt → Option Int) (q : ProbD) : Option Int :=
  bif (decide (q.cells < 1)) then
   some 191
  else
   bif (decide (q.cells > 256)) then
    some 191
   else
    bif (decide (q.symbols < 1)) then
     some 191
    else
     bif (decide (q.symbols > 16)) then
      some 191
     else
      bif (((q.values.length : Nat) : Int) != q.symbols) then
       some 191
      else
       (between n q.values 0 99).bind fun y1 =>
        bif (!y1) then
         some 191
        else
         bif (((q.nbrs.length : Nat) : Int) != q.cells) then
          some 191
         else
          (rcheck n q.nbrs).bind fun y2 =>
           bif (y2 != 0) then
            some 191
           else
            bif (decide (((q.cons.length : Nat) : Int) > 4096)) then
             some 191
            else
             self (.l1 0)
def rvalid_m (q : ProbD) : Nat → rvalidPt → Option Int
  | 0, _ => none
  | n + 1, .l1 x3 => rvalid_l1 n (rvalid_m q n) q x3
def rvalid (n : Nat) (q : ProbD) : Option Int := rvalid_l0 n (rvalid_m q n) q
/-- What the points stand for. -/
def rvalid_at (n : Nat) (B : Nat) (N : Yard Tryd.prog GG 0) (q : ProbD) (r : Int) : rvalidPt → Prop
  | .l1 x3 => ∀ m0 : Nat, n ≤ m0 → TrK Tryd.prog GG Fence.wide (some B) 0 N (Fin Tryd.prog Tryd.f23 0 (.int .i64 r) []) (toN m0 (atNC (bodyC Tryd.f23) 0 [])) ⟨frm 72 [(1, .ref 0 0), (3, .int .i64 x3)], [some (.cells (probC q))]⟩
set_option maxRecDepth 100000 in
set_option maxHeartbeats 4000000 in
theorem rvalid_p1 (n B : Nat) (N : Yard Tryd.prog GG 0) (self : rvalidPt → Option Int) (q : ProbD) (hself : ∀ pt r, self pt = some r → rvalid_at n B N q r pt) (x3 : Int) (r : Int) (h : rvalid_l1 n self q x3 = some r) : rvalid_at (n + 1) B N q r (.l1 x3) := by
  have hX : HX Fence.wide Tryd.prog := ⟨FOk.wide, by kernel_rfl⟩
  intro m0 hm0
  refine TrK.round hm0 (by kernel_rfl) fun m0 hm0 => ?_
  unfold rvalid_l1 at h
  rcases bifSome h with ⟨c0, h⟩ | ⟨c0, h⟩
  · obtain ⟨g0, h⟩ := guardSome h
    obtain ⟨y1, hy1, h⟩ := bindSome h
    rcases bifSome h with ⟨c1, h⟩ | ⟨c1, h⟩
    · obtain rfl := Option.some.inj h
      exact TrK.e hX sch_rvalid 17 [2] [] [] (.o 58 (DLe.bool c0) <| .g s_rvalid_8 <| .g g0 <| .c (ES.frameB (rfine_ok (q.cons.getD ((x3).toNat) default) q.cells q.symbols hy1) [some (.cells (probC q))] (by kernel_rfl)) <| .o 71 (DLe.bool c1) <| .e) [] .e (by kernel_rfl)
    · obtain ⟨g1, h⟩ := guardSome h
      exact TrK.g hX sch_rvalid 18 [1, 3] [0] [] (.o 58 (DLe.bool c0) <| .g s_rvalid_8 <| .g g0 <| .c (ES.frameB (rfine_ok (q.cons.getD ((x3).toNat) default) q.cells q.symbols hy1) [some (.cells (probC q))] (by kernel_rfl)) <| .o 71 (DLe.bool c1) <| .o 60 (wr64 g1) <| .e) (hself (.l1 (x3 + 1)) r h m0 hm0) (by kernel_rfl) (by kernel_rfl)
  · obtain rfl := Option.some.inj h
    exact TrK.e hX sch_rvalid 12 [2] [] [] (.o 58 (DLe.bool c0) <| .e) [] .e (by kernel_rfl)
theorem rvalid_all (B : Nat) (N : Yard Tryd.prog GG 0) (q : ProbD) : ∀ (n : Nat) (pt : rvalidPt) (r : Int), rvalid_m q n pt = some r → rvalid_at n B N q r pt
  | 0, _, _, h => by cases h
  | n + 1, .l1 x3, r, h => rvalid_p1 n B N (rvalid_m q n) q (rvalid_all B N q n) x3 r h
set_option maxRecDepth 100000 in
set_option maxHeartbeats 4000000 in
theorem rvalid_ok {n : Nat} (q : ProbD) {r : Int} (h : rvalid n q = some r) : ES Tryd.prog GG 23 [.agg 5 (L1 (probC q))] [] (.int .i64 r) [] true := by
  have hX : HX Fence.wide Tryd.prog := ⟨FOk.wide, by kernel_rfl⟩
  refine ES.of_trk Tryd.func23 (by kernel_rfl) (by kernel_rfl) noIter_nil (fun _ => rfl) fun B N => ?_
  have hself := rvalid_all B N q n
  unfold rvalid at h
  generalize rvalid_m q n = self at h hself
  unfold rvalid_l0 at h
  rcases bifSome h with ⟨c0, h⟩ | ⟨c0, h⟩
  · obtain rfl := Option.some.inj h
    exact TrK.e hX sch_rvalid 13 [2] [] [] (.o 6 (DLe.bool c0) <| .e) [] .e (by kernel_rfl)
  · rcases bifSome h with ⟨c1, h⟩ | ⟨c1, h⟩
    · obtain rfl := Option.some.inj h
      exact TrK.e hX sch_rvalid 13 [2] [] [] (.o 6 (DLe.bool c0) <| .o 10 (DLe.bool c1) <| .e) [] .e (by kernel_rfl)
    · rcases bifSome h with ⟨c2, h⟩ | ⟨c2, h⟩
      · obtain rfl := Option.some.inj h
        exact TrK.e hX sch_rvalid 13 [2] [] [] (.o 6 (DLe.bool c0) <| .o 10 (DLe.bool c1) <| .o 15 (DLe.bool c2) <| .e) [] .e (by kernel_rfl)
      · rcases bifSome h with ⟨c3, h⟩ | ⟨c3, h⟩
        · obtain rfl := Option.some.inj h
          exact TrK.e hX sch_rvalid 13 [2] [] [] (.o 6 (DLe.bool c0) <| .o 10 (DLe.bool c1) <| .o 15 (DLe.bool c2) <| .o 20 (DLe.bool c3) <| .e) [] .e (by kernel_rfl)
        · rcases bifSome h with ⟨c4, h⟩ | ⟨c4, h⟩
          · obtain rfl := Option.some.inj h
            exact TrK.e hX sch_rvalid 13 [2] [] [] (.o 6 (DLe.bool c0) <| .o 10 (DLe.bool c1) <| .o 15 (DLe.bool c2) <| .o 20 (DLe.bool c3) <| .o 28 (DLe.bool c4) <| .e) [] .e (by kernel_rfl)
          · obtain ⟨y1, hy1, h⟩ := bindSome h
            rcases bifSome h with ⟨c5, h⟩ | ⟨c5, h⟩
            · obtain rfl := Option.some.inj h
              exact TrK.e hX sch_rvalid 13 [2] [] [] (.o 6 (DLe.bool c0) <| .o 10 (DLe.bool c1) <| .o 15 (DLe.bool c2) <| .o 20 (DLe.bool c3) <| .o 28 (DLe.bool c4) <| .c (ES.frameB (between_ok q.values 0 99 hy1) [some (.cells (probC q))] (by kernel_rfl)) <| .o 34 (DLe.bool c5) <| .e) [] .e (by kernel_rfl)
            · rcases bifSome h with ⟨c6, h⟩ | ⟨c6, h⟩
              · obtain rfl := Option.some.inj h
                exact TrK.e hX sch_rvalid 18 [2] [] [] (.o 6 (DLe.bool c0) <| .o 10 (DLe.bool c1) <| .o 15 (DLe.bool c2) <| .o 20 (DLe.bool c3) <| .o 28 (DLe.bool c4) <| .c (ES.frameB (between_ok q.values 0 99 hy1) [some (.cells (probC q))] (by kernel_rfl)) <| .o 34 (DLe.bool c5) <| .o 41 (DLe.bool c6) <| .e) [] .e (by kernel_rfl)
              · obtain ⟨y2, hy2, h⟩ := bindSome h
                rcases bifSome h with ⟨c7, h⟩ | ⟨c7, h⟩
                · obtain rfl := Option.some.inj h
                  exact TrK.e hX sch_rvalid 18 [2] [] [] (.o 6 (DLe.bool c0) <| .o 10 (DLe.bool c1) <| .o 15 (DLe.bool c2) <| .o 20 (DLe.bool c3) <| .o 28 (DLe.bool c4) <| .c (ES.frameB (between_ok q.values 0 99 hy1) [some (.cells (probC q))] (by kernel_rfl)) <| .o 34 (DLe.bool c5) <| .o 41 (DLe.bool c6) <| .c (ES.frameB (rcheck_ok q.nbrs hy2) [some (.cells (probC q))] (by kernel_rfl)) <| .o 46 (DLe.bool c7) <| .e) [] .e (by kernel_rfl)
                · rcases bifSome h with ⟨c8, h⟩ | ⟨c8, h⟩
                  · obtain rfl := Option.some.inj h
                    exact TrK.e hX sch_rvalid 18 [2] [] [] (.o 6 (DLe.bool c0) <| .o 10 (DLe.bool c1) <| .o 15 (DLe.bool c2) <| .o 20 (DLe.bool c3) <| .o 28 (DLe.bool c4) <| .c (ES.frameB (between_ok q.values 0 99 hy1) [some (.cells (probC q))] (by kernel_rfl)) <| .o 34 (DLe.bool c5) <| .o 41 (DLe.bool c6) <| .c (ES.frameB (rcheck_ok q.nbrs hy2) [some (.cells (probC q))] (by kernel_rfl)) <| .o 46 (DLe.bool c7) <| .o 52 (DLe.bool c8) <| .e) [] .e (by kernel_rfl)
                  · exact TrK.g hX sch_rvalid 21 [1, 3] [0] [] (.o 6 (DLe.bool c0) <| .o 10 (DLe.bool c1) <| .o 15 (DLe.bool c2) <| .o 20 (DLe.bool c3) <| .o 28 (DLe.bool c4) <| .c (ES.frameB (between_ok q.values 0 99 hy1) [some (.cells (probC q))] (by kernel_rfl)) <| .o 34 (DLe.bool c5) <| .o 41 (DLe.bool c6) <| .c (ES.frameB (rcheck_ok q.nbrs hy2) [some (.cells (probC q))] (by kernel_rfl)) <| .o 46 (DLe.bool c7) <| .o 52 (DLe.bool c8) <| .e) (TrK.enter n (by kernel_rfl) (hself (.l1 0) r h n (Nat.le_refl _))) (by kernel_rfl) (by kernel_rfl)


def sch_rlevel : Sch := fun i => match i with
  | _ => .no
def rlevel_l0 (n : Nat) (q : ProbD) (i : Int) : Option (Int × Int) :=
  (rvalid n q).bind fun y1 =>
   bif (y1 != 0) then
    some (0, y1)
   else
    bif (decide (i < 0)) then
     some (0, 260)
    else
     bif (decide (i ≥ ((q.cons.length : Nat) : Int))) then
      some (0, 260)
     else
      if (0 : Int) ≤ i ∧ i < ((q.cons.length : Nat) : Int) then
       bif (((q.cons.getD ((i).toNat) default).kind) == 4) then
        some (2, 0)
       else
        bif (((q.cons.getD ((i).toNat) default).kind) == 3) then
         some (2, 0)
        else
         bif (((q.cons.getD ((i).toNat) default).kind) == 5) then
          some (3, 0)
         else
          bif (((q.cons.getD ((i).toNat) default).kind) == 8) then
           some (4, 0)
          else
           bif (((q.cons.getD ((i).toNat) default).kind) == 9) then
            some (4, 0)
           else
            some (1, 0)
      else none
def rlevel (n : Nat) (q : ProbD) (i : Int) : Option (Int × Int) := rlevel_l0 n q i
set_option maxRecDepth 100000 in
set_option maxHeartbeats 4000000 in
theorem rlevel_ok {n : Nat} (q : ProbD) (i : Int) {r : Int × Int} (h : rlevel n q i = some r) : ES Tryd.prog GG 10 [.agg 5 (L1 (probC q)), .int .i64 i] [] (.tup 2 (L1 [.int .i64 r.1, .int .i64 r.2])) [] true := by
  have hX : HX Fence.wide Tryd.prog := ⟨FOk.wide, by kernel_rfl⟩
  refine ES.of_trk Tryd.func10 (by kernel_rfl) (by kernel_rfl) noIter_nil (fun _ => rfl) fun B N => ?_
  unfold rlevel at h
  unfold rlevel_l0 at h
  obtain ⟨y1, hy1, h⟩ := bindSome h
  rcases bifSome h with ⟨c0, h⟩ | ⟨c0, h⟩
  · cases h
    exact TrK.e hX sch_rlevel 15 [4, 5] [] [] (.c (ES.frameB (rvalid_ok q hy1) [some (.cells (probC q))] (by kernel_rfl)) <| .o 10 (DLe.bool c0) <| .e) [] .e (by kernel_rfl)
  · rcases bifSome h with ⟨c1, h⟩ | ⟨c1, h⟩
    · cases h
      exact TrK.e hX sch_rlevel 20 [4, 5] [] [] (.c (ES.frameB (rvalid_ok q hy1) [some (.cells (probC q))] (by kernel_rfl)) <| .o 10 (DLe.bool c0) <| .o 13 (DLe.bool c1) <| .e) [] .e (by kernel_rfl)
    · rcases bifSome h with ⟨c2, h⟩ | ⟨c2, h⟩
      · cases h
        exact TrK.e hX sch_rlevel 20 [4, 5] [] [] (.c (ES.frameB (rvalid_ok q hy1) [some (.cells (probC q))] (by kernel_rfl)) <| .o 10 (DLe.bool c0) <| .o 13 (DLe.bool c1) <| .o 19 (DLe.bool c2) <| .e) [] .e (by kernel_rfl)
      · obtain ⟨g0, h⟩ := guardSome h
        rcases bifSome h with ⟨c3, h⟩ | ⟨c3, h⟩
        · cases h
          exact TrK.e hX sch_rlevel 31 [4, 5] [] [] (.c (ES.frameB (rvalid_ok q hy1) [some (.cells (probC q))] (by kernel_rfl)) <| .o 10 (DLe.bool c0) <| .o 13 (DLe.bool c1) <| .o 19 (DLe.bool c2) <| .g g0 <| .o 28 (DLe.bool c3) <| .e) [] .e (by kernel_rfl)
        · rcases bifSome h with ⟨c4, h⟩ | ⟨c4, h⟩
          · cases h
            exact TrK.e hX sch_rlevel 31 [4, 5] [] [] (.c (ES.frameB (rvalid_ok q hy1) [some (.cells (probC q))] (by kernel_rfl)) <| .o 10 (DLe.bool c0) <| .o 13 (DLe.bool c1) <| .o 19 (DLe.bool c2) <| .g g0 <| .o 28 (DLe.bool c3) <| .o 29 (DLe.bool c4) <| .e) [] .e (by kernel_rfl)
          · rcases bifSome h with ⟨c5, h⟩ | ⟨c5, h⟩
            · cases h
              exact TrK.e hX sch_rlevel 34 [4, 5] [] [] (.c (ES.frameB (rvalid_ok q hy1) [some (.cells (probC q))] (by kernel_rfl)) <| .o 10 (DLe.bool c0) <| .o 13 (DLe.bool c1) <| .o 19 (DLe.bool c2) <| .g g0 <| .o 28 (DLe.bool c3) <| .o 29 (DLe.bool c4) <| .o 31 (DLe.bool c5) <| .e) [] .e (by kernel_rfl)
            · rcases bifSome h with ⟨c6, h⟩ | ⟨c6, h⟩
              · cases h
                exact TrK.e hX sch_rlevel 40 [4, 5] [] [] (.c (ES.frameB (rvalid_ok q hy1) [some (.cells (probC q))] (by kernel_rfl)) <| .o 10 (DLe.bool c0) <| .o 13 (DLe.bool c1) <| .o 19 (DLe.bool c2) <| .g g0 <| .o 28 (DLe.bool c3) <| .o 29 (DLe.bool c4) <| .o 31 (DLe.bool c5) <| .o 33 (DLe.bool c6) <| .e) [] .e (by kernel_rfl)
              · rcases bifSome h with ⟨c7, h⟩ | ⟨c7, h⟩
                · cases h
                  exact TrK.e hX sch_rlevel 40 [4, 5] [] [] (.c (ES.frameB (rvalid_ok q hy1) [some (.cells (probC q))] (by kernel_rfl)) <| .o 10 (DLe.bool c0) <| .o 13 (DLe.bool c1) <| .o 19 (DLe.bool c2) <| .g g0 <| .o 28 (DLe.bool c3) <| .o 29 (DLe.bool c4) <| .o 31 (DLe.bool c5) <| .o 33 (DLe.bool c6) <| .o 34 (DLe.bool c7) <| .e) [] .e (by kernel_rfl)
                · cases h
                  exact TrK.e hX sch_rlevel 42 [4, 5] [] [] (.c (ES.frameB (rvalid_ok q hy1) [some (.cells (probC q))] (by kernel_rfl)) <| .o 10 (DLe.bool c0) <| .o 13 (DLe.bool c1) <| .o 19 (DLe.bool c2) <| .g g0 <| .o 28 (DLe.bool c3) <| .o 29 (DLe.bool c4) <| .o 31 (DLe.bool c5) <| .o 33 (DLe.bool c6) <| .o 34 (DLe.bool c7) <| .e) [] .e (by kernel_rfl)


def sch_few : Sch := fun i => match i with
  | _ => .no
def few_l0 (n : Nat) (q : ProbD) (pos : List Int) : Option Bool :=
  (fewProblem n q).bind fun y1 =>
   bif y1 then
    some (decide (((pos.length : Nat) : Int) ≤ 20))
   else
    some false
def few (n : Nat) (q : ProbD) (pos : List Int) : Option Bool := few_l0 n q pos
set_option maxRecDepth 100000 in
set_option maxHeartbeats 4000000 in
theorem few_ok {n : Nat} (q : ProbD) (pos : List Int) {r : Bool} (h : few n q pos = some r) : ES Tryd.prog GG 8 [.agg 5 (L1 (probC q)), .ints pos] [] (.bool r) [] true := by
  have hX : HX Fence.wide Tryd.prog := ⟨FOk.wide, by kernel_rfl⟩
  refine ES.of_trk Tryd.func8 (by kernel_rfl) (by kernel_rfl) noIter_nil (fun _ => rfl) fun B N => ?_
  unfold few at h
  unfold few_l0 at h
  obtain ⟨y1, hy1, h⟩ := bindSome h
  rcases bifSome h with ⟨c0, h⟩ | ⟨c0, h⟩
  · cases h
    exact TrK.e hX sch_few 9 [4] [] [] (.c (ES.frameB (fewProblem_ok q hy1) [some (.cells (probC q))] (by kernel_rfl)) <| .o 6 (DLe.bool c0) <| .e) [] .e (by kernel_rfl)
  · obtain rfl := Option.some.inj h
    exact TrK.e hX sch_few 9 [4] [] [] (.c (ES.frameB (fewProblem_ok q hy1) [some (.cells (probC q))] (by kernel_rfl)) <| .o 6 (DLe.bool c0) <| .e) [] .e (by kernel_rfl)


end Go.Proofs.YtekkngkphejfcaaDoor
