/- Functions read off the code: lists. -/
import Derived.Test.YtekkngkphejfcaaDoorDhint
namespace Go.Proofs.YtekkngkphejfcaaDoor
open Go.RowKit

def a_same_6 : Prop := SOk (regF Tryd.f13 6) [] [0, 1, 2, 3, 4, 5, 6, 7, 8] []
theorem s_same_6 : a_same_6 := by unfold a_same_6 SOk; kernel_rfl
def sch_same : Sch := fun i => match i with
  | 6 => .ord [] [0, 1, 2, 3, 4, 5, 6, 7, 8] []
  | _ => .no
inductive samePt where
  | l1 (x5 : Int)
def same_l1 (n : Nat) (self : samePt → Option Bool) (a b_ : List Int) (x5 : Int) : Option Bool :=
  bif (decide (x5 < ((a.length : Nat) : Int))) then
   if ((0 : Int) ≤ x5 ∧ x5 < ((a.length : Nat) : Int)) ∧ ((0 : Int) ≤ x5 ∧ x5 < ((b_.length : Nat) : Int)) then
    bif ((a.getD ((x5).toNat) 0) != (b_.getD ((x5).toNat) 0)) then
     some false
    else
     if R64 (x5 + 1) then
      self (.l1 (x5 + 1))
     else none
   else none
  else
   some true
def same_l0 (n : Nat) (self : samePt → Option Bool) (a b_ : List Int) : Option Bool :=
  bif (((a.length : Nat) : Int) != ((b_.length : Nat) : Int)) then
   some false
  else
   self (.l1 0)
def same_m (a b_ : List Int) : Nat → samePt → Option Bool
  | 0, _ => none
  | n + 1, .l1 x5 => same_l1 n (same_m a b_ n) a b_ x5
def same (n : Nat) (a b_ : List Int) : Option Bool := same_l0 n (same_m a b_ n) a b_
/-- What the points stand for. -/
def same_at (n : Nat) (B : Nat) (N : Yard Tryd.prog GG 0) (a b_ : List Int) (r : Bool) : samePt → Prop
  | .l1 x5 => ∀ m0 : Nat, n ≤ m0 → TrK Tryd.prog GG Fence.wide (some B) 0 N (Fin Tryd.prog Tryd.f13 0 (.bool r) []) (toN m0 (atNC (bodyC Tryd.f13) 0 [])) ⟨frm 26 [(0, .ints a), (1, .ints b_), (5, .int .i64 x5)], []⟩
set_option maxRecDepth 100000 in
set_option maxHeartbeats 4000000 in
theorem same_p1 (n B : Nat) (N : Yard Tryd.prog GG 0) (self : samePt → Option Bool) (a b_ : List Int) (hself : ∀ pt r, self pt = some r → same_at n B N a b_ r pt) (x5 : Int) (r : Bool) (h : same_l1 n self a b_ x5 = some r) : same_at (n + 1) B N a b_ r (.l1 x5) := by
  have hX : HX Fence.wide Tryd.prog := ⟨FOk.wide, by kernel_rfl⟩
  intro m0 hm0
  refine TrK.round hm0 (by kernel_rfl) fun m0 hm0 => ?_
  unfold same_l1 at h
  rcases bifSome h with ⟨c0, h⟩ | ⟨c0, h⟩
  · obtain ⟨⟨g0, g1⟩, h⟩ := guardSome h
    rcases bifSome h with ⟨c1, h⟩ | ⟨c1, h⟩
    · obtain rfl := Option.some.inj h
      exact TrK.e hX sch_same 17 [4] [] [] (.o 14 (DLe.bool c0) <| .g s_same_6 <| .g g0 <| .g g1 <| .o 25 (DLe.bool c1) <| .e) [] .e (by kernel_rfl)
    · obtain ⟨g2, h⟩ := guardSome h
      exact TrK.g hX sch_same 18 [0, 1, 5] [] [] (.o 14 (DLe.bool c0) <| .g s_same_6 <| .g g0 <| .g g1 <| .o 25 (DLe.bool c1) <| .o 16 (wr64 g2) <| .e) (hself (.l1 (x5 + 1)) r h m0 hm0) (by kernel_rfl) (by kernel_rfl)
  · obtain rfl := Option.some.inj h
    exact TrK.e hX sch_same 12 [4] [] [] (.o 14 (DLe.bool c0) <| .e) [] .e (by kernel_rfl)
theorem same_all (B : Nat) (N : Yard Tryd.prog GG 0) (a b_ : List Int) : ∀ (n : Nat) (pt : samePt) (r : Bool), same_m a b_ n pt = some r → same_at n B N a b_ r pt
  | 0, _, _, h => by cases h
  | n + 1, .l1 x5, r, h => same_p1 n B N (same_m a b_ n) a b_ (same_all B N a b_ n) x5 r h
set_option maxRecDepth 100000 in
set_option maxHeartbeats 4000000 in
theorem same_ok {n : Nat} (a b_ : List Int) {r : Bool} (h : same n a b_ = some r) : ES Tryd.prog GG 13 [.ints a, .ints b_] [] (.bool r) [] true := by
  have hX : HX Fence.wide Tryd.prog := ⟨FOk.wide, by kernel_rfl⟩
  refine ES.of_trk Tryd.func13 (by kernel_rfl) (by kernel_rfl) noIter_nil (fun _ => rfl) fun B N => ?_
  have hself := same_all B N a b_ n
  unfold same at h
  generalize same_m a b_ n = self at h hself
  unfold same_l0 at h
  rcases bifSome h with ⟨c0, h⟩ | ⟨c0, h⟩
  · obtain rfl := Option.some.inj h
    exact TrK.e hX sch_same 13 [4] [] [] (.o 10 (DLe.bool c0) <| .e) [] .e (by kernel_rfl)
  · exact TrK.g hX sch_same 16 [0, 1, 5] [] [] (.o 10 (DLe.bool c0) <| .e) (TrK.enter n (by kernel_rfl) (hself (.l1 0) r h n (Nat.le_refl _))) (by kernel_rfl) (by kernel_rfl)


def sch_has : Sch := fun i => match i with
  | _ => .no
inductive hasPt where
  | l1 (x5 : Int)
def has_l1 (n : Nat) (self : hasPt → Option Bool) (l_ : List Int) (n_ : Int) (x5 : Int) : Option Bool :=
  bif (decide (x5 < ((l_.length : Nat) : Int))) then
   if (0 : Int) ≤ x5 ∧ x5 < ((l_.length : Nat) : Int) then
    bif ((l_.getD ((x5).toNat) 0) == n_) then
     some true
    else
     if R64 (x5 + 1) then
      self (.l1 (x5 + 1))
     else none
   else none
  else
   some false
def has_l0 (n : Nat) (self : hasPt → Option Bool) (l_ : List Int) (n_ : Int) : Option Bool :=
  self (.l1 0)
def has_m (l_ : List Int) (n_ : Int) : Nat → hasPt → Option Bool
  | 0, _ => none
  | n + 1, .l1 x5 => has_l1 n (has_m l_ n_ n) l_ n_ x5
def has (n : Nat) (l_ : List Int) (n_ : Int) : Option Bool := has_l0 n (has_m l_ n_ n) l_ n_
/-- What the points stand for. -/
def has_at (n : Nat) (B : Nat) (N : Yard Tryd.prog GG 0) (l_ : List Int) (n_ : Int) (r : Bool) : hasPt → Prop
  | .l1 x5 => ∀ m0 : Nat, n ≤ m0 → TrK Tryd.prog GG Fence.wide (some B) 0 N (Fin Tryd.prog Tryd.f56 0 (.bool r) []) (toN m0 (atNC (bodyC Tryd.f56) 0 [])) ⟨frm 18 [(0, .ints l_), (1, .int .i64 n_), (5, .int .i64 x5)], []⟩
set_option maxRecDepth 100000 in
set_option maxHeartbeats 4000000 in
theorem has_p1 (n B : Nat) (N : Yard Tryd.prog GG 0) (self : hasPt → Option Bool) (l_ : List Int) (n_ : Int) (hself : ∀ pt r, self pt = some r → has_at n B N l_ n_ r pt) (x5 : Int) (r : Bool) (h : has_l1 n self l_ n_ x5 = some r) : has_at (n + 1) B N l_ n_ r (.l1 x5) := by
  have hX : HX Fence.wide Tryd.prog := ⟨FOk.wide, by kernel_rfl⟩
  intro m0 hm0
  refine TrK.round hm0 (by kernel_rfl) fun m0 hm0 => ?_
  unfold has_l1 at h
  rcases bifSome h with ⟨c0, h⟩ | ⟨c0, h⟩
  · obtain ⟨g0, h⟩ := guardSome h
    rcases bifSome h with ⟨c1, h⟩ | ⟨c1, h⟩
    · obtain rfl := Option.some.inj h
      exact TrK.e hX sch_has 17 [4] [] [] (.o 9 (DLe.bool c0) <| .g g0 <| .o 17 (DLe.bool c1) <| .e) [] .e (by kernel_rfl)
    · obtain ⟨g1, h⟩ := guardSome h
      exact TrK.g hX sch_has 18 [0, 1, 5] [] [] (.o 9 (DLe.bool c0) <| .g g0 <| .o 17 (DLe.bool c1) <| .o 11 (wr64 g1) <| .e) (hself (.l1 (x5 + 1)) r h m0 hm0) (by kernel_rfl) (by kernel_rfl)
  · obtain rfl := Option.some.inj h
    exact TrK.e hX sch_has 12 [4] [] [] (.o 9 (DLe.bool c0) <| .e) [] .e (by kernel_rfl)
theorem has_all (B : Nat) (N : Yard Tryd.prog GG 0) (l_ : List Int) (n_ : Int) : ∀ (n : Nat) (pt : hasPt) (r : Bool), has_m l_ n_ n pt = some r → has_at n B N l_ n_ r pt
  | 0, _, _, h => by cases h
  | n + 1, .l1 x5, r, h => has_p1 n B N (has_m l_ n_ n) l_ n_ (has_all B N l_ n_ n) x5 r h
set_option maxRecDepth 100000 in
set_option maxHeartbeats 4000000 in
theorem has_ok {n : Nat} (l_ : List Int) (n_ : Int) {r : Bool} (h : has n l_ n_ = some r) : ES Tryd.prog GG 56 [.ints l_, .int .i64 n_] [] (.bool r) [] true := by
  have hX : HX Fence.wide Tryd.prog := ⟨FOk.wide, by kernel_rfl⟩
  refine ES.of_trk Tryd.func56 (by kernel_rfl) (by kernel_rfl) noIter_nil (fun _ => rfl) fun B N => ?_
  have hself := has_all B N l_ n_ n
  unfold has at h
  generalize has_m l_ n_ n = self at h hself
  unfold has_l0 at h
  exact TrK.g hX sch_has 11 [0, 1, 5] [] [] .e (TrK.enter n (by kernel_rfl) (hself (.l1 0) r h n (Nat.le_refl _))) (by kernel_rfl) (by kernel_rfl)


def a_pwithin_6 : Prop := SOk (regF Tryd.f17 6) [] [0, 1, 2, 3, 4, 5, 6, 7, 8, 9] []
theorem s_pwithin_6 : a_pwithin_6 := by unfold a_pwithin_6 SOk; kernel_rfl
def sch_pwithin : Sch := fun i => match i with
  | 6 => .ord [] [0, 1, 2, 3, 4, 5, 6, 7, 8, 9] []
  | _ => .no
inductive pwithinPt where
  | l1 (x13 : Int)
def pwithin_l1 (n : Nat) (self : pwithinPt → Option Bool) (a b_ : List Int) (x13 : Int) : Option Bool :=
  bif (decide (x13 < ((a.length : Nat) : Int))) then
   if ((0 : Int) ≤ x13 ∧ x13 < ((a.length : Nat) : Int)) ∧ ((0 : Int) ≤ x13 ∧ x13 < ((b_.length : Nat) : Int)) then
    bif ((bits .andNot .i64 (a.getD ((x13).toNat) 0) (b_.getD ((x13).toNat) 0)) != 0) then
     some false
    else
     if R64 (x13 + 1) then
      self (.l1 (x13 + 1))
     else none
   else none
  else
   some true
def pwithin_l0 (n : Nat) (self : pwithinPt → Option Bool) (a b_ : List Int) : Option Bool :=
  bif (((a.length : Nat) : Int) != ((b_.length : Nat) : Int)) then
   some false
  else
   self (.l1 0)
def pwithin_m (a b_ : List Int) : Nat → pwithinPt → Option Bool
  | 0, _ => none
  | n + 1, .l1 x13 => pwithin_l1 n (pwithin_m a b_ n) a b_ x13
def pwithin (n : Nat) (a b_ : List Int) : Option Bool := pwithin_l0 n (pwithin_m a b_ n) a b_
/-- What the points stand for. -/
def pwithin_at (n : Nat) (B : Nat) (N : Yard Tryd.prog GG 0) (a b_ : List Int) (r : Bool) : pwithinPt → Prop
  | .l1 x13 => ∀ m0 : Nat, n ≤ m0 → TrK Tryd.prog GG Fence.wide (some B) 0 N (Fin Tryd.prog Tryd.f17 0 (.bool r) []) (toN m0 (atNC (bodyC Tryd.f17) 0 [])) ⟨frm 27 [(0, .ints a), (1, .ints b_), (12, .int .i64 ((a.length : Nat) : Int)), (13, .int .i64 x13)], []⟩
set_option maxRecDepth 100000 in
set_option maxHeartbeats 4000000 in
theorem pwithin_p1 (n B : Nat) (N : Yard Tryd.prog GG 0) (self : pwithinPt → Option Bool) (a b_ : List Int) (hself : ∀ pt r, self pt = some r → pwithin_at n B N a b_ r pt) (x13 : Int) (r : Bool) (h : pwithin_l1 n self a b_ x13 = some r) : pwithin_at (n + 1) B N a b_ r (.l1 x13) := by
  have hX : HX Fence.wide Tryd.prog := ⟨FOk.wide, by kernel_rfl⟩
  intro m0 hm0
  refine TrK.round hm0 (by kernel_rfl) fun m0 hm0 => ?_
  unfold pwithin_l1 at h
  rcases bifSome h with ⟨c0, h⟩ | ⟨c0, h⟩
  · obtain ⟨⟨g0, g1⟩, h⟩ := guardSome h
    rcases bifSome h with ⟨c1, h⟩ | ⟨c1, h⟩
    · obtain rfl := Option.some.inj h
      exact TrK.e hX sch_pwithin 19 [4] [] [] (.o 14 (DLe.bool c0) <| .g s_pwithin_6 <| .g g0 <| .g g1 <| .o 25 (DLe.bool c1) <| .e) [] .e (by kernel_rfl)
    · obtain ⟨g2, h⟩ := guardSome h
      exact TrK.g hX sch_pwithin 20 [0, 1, 12, 13] [] [] (.o 14 (DLe.bool c0) <| .g s_pwithin_6 <| .g g0 <| .g g1 <| .o 25 (DLe.bool c1) <| .o 26 (wr64 g2) <| .e) (hself (.l1 (x13 + 1)) r h m0 hm0) (by kernel_rfl) (by kernel_rfl)
  · obtain rfl := Option.some.inj h
    exact TrK.e hX sch_pwithin 12 [4] [] [] (.o 14 (DLe.bool c0) <| .e) [] .e (by kernel_rfl)
theorem pwithin_all (B : Nat) (N : Yard Tryd.prog GG 0) (a b_ : List Int) : ∀ (n : Nat) (pt : pwithinPt) (r : Bool), pwithin_m a b_ n pt = some r → pwithin_at n B N a b_ r pt
  | 0, _, _, h => by cases h
  | n + 1, .l1 x13, r, h => pwithin_p1 n B N (pwithin_m a b_ n) a b_ (pwithin_all B N a b_ n) x13 r h
set_option maxRecDepth 100000 in
set_option maxHeartbeats 4000000 in
theorem pwithin_ok {n : Nat} (a b_ : List Int) {r : Bool} (h : pwithin n a b_ = some r) : ES Tryd.prog GG 17 [.ints a, .ints b_] [] (.bool r) [] true := by
  have hX : HX Fence.wide Tryd.prog := ⟨FOk.wide, by kernel_rfl⟩
  refine ES.of_trk Tryd.func17 (by kernel_rfl) (by kernel_rfl) noIter_nil (fun _ => rfl) fun B N => ?_
  have hself := pwithin_all B N a b_ n
  unfold pwithin at h
  generalize pwithin_m a b_ n = self at h hself
  unfold pwithin_l0 at h
  rcases bifSome h with ⟨c0, h⟩ | ⟨c0, h⟩
  · obtain rfl := Option.some.inj h
    exact TrK.e hX sch_pwithin 13 [4] [] [] (.o 10 (DLe.bool c0) <| .e) [] .e (by kernel_rfl)
  · exact TrK.g hX sch_pwithin 16 [0, 1, 12, 13] [] [] (.o 10 (DLe.bool c0) <| .e) (TrK.enter n (by kernel_rfl) (hself (.l1 0) r h n (Nat.le_refl _))) (by kernel_rfl) (by kernel_rfl)


def sch_between : Sch := fun i => match i with
  | _ => .no
inductive betweenPt where
  | l1 (x7 : Int)
def between_l1 (n : Nat) (self : betweenPt → Option Bool) (l_ : List Int) (lo hi : Int) (x7 : Int) : Option Bool :=
  bif (decide (x7 < ((l_.length : Nat) : Int))) then
   if (0 : Int) ≤ x7 ∧ x7 < ((l_.length : Nat) : Int) then
    bif (decide ((l_.getD ((x7).toNat) 0) < lo)) then
     some false
    else
     bif (decide ((l_.getD ((x7).toNat) 0) > hi)) then
      some false
     else
      if R64 (x7 + 1) then
       self (.l1 (x7 + 1))
      else none
   else none
  else
   some true
def between_l0 (n : Nat) (self : betweenPt → Option Bool) (l_ : List Int) (lo hi : Int) : Option Bool :=
  self (.l1 0)
def between_m (l_ : List Int) (lo hi : Int) : Nat → betweenPt → Option Bool
  | 0, _ => none
  | n + 1, .l1 x7 => between_l1 n (between_m l_ lo hi n) l_ lo hi x7
def between (n : Nat) (l_ : List Int) (lo hi : Int) : Option Bool := between_l0 n (between_m l_ lo hi n) l_ lo hi
/-- What the points stand for. -/
def between_at (n : Nat) (B : Nat) (N : Yard Tryd.prog GG 0) (l_ : List Int) (lo hi : Int) (r : Bool) : betweenPt → Prop
  | .l1 x7 => ∀ m0 : Nat, n ≤ m0 → TrK Tryd.prog GG Fence.wide (some B) 0 N (Fin Tryd.prog Tryd.f36 0 (.bool r) []) (toN m0 (atNC (bodyC Tryd.f36) 0 [])) ⟨frm 28 [(0, .ints l_), (1, .int .i64 lo), (2, .int .i64 hi), (7, .int .i64 x7)], []⟩
set_option maxRecDepth 100000 in
set_option maxHeartbeats 4000000 in
theorem between_p1 (n B : Nat) (N : Yard Tryd.prog GG 0) (self : betweenPt → Option Bool) (l_ : List Int) (lo hi : Int) (hself : ∀ pt r, self pt = some r → between_at n B N l_ lo hi r pt) (x7 : Int) (r : Bool) (h : between_l1 n self l_ lo hi x7 = some r) : between_at (n + 1) B N l_ lo hi r (.l1 x7) := by
  have hX : HX Fence.wide Tryd.prog := ⟨FOk.wide, by kernel_rfl⟩
  intro m0 hm0
  refine TrK.round hm0 (by kernel_rfl) fun m0 hm0 => ?_
  unfold between_l1 at h
  rcases bifSome h with ⟨c0, h⟩ | ⟨c0, h⟩
  · obtain ⟨g0, h⟩ := guardSome h
    rcases bifSome h with ⟨c1, h⟩ | ⟨c1, h⟩
    · obtain rfl := Option.some.inj h
      exact TrK.e hX sch_between 17 [6] [] [] (.o 11 (DLe.bool c0) <| .g g0 <| .o 19 (DLe.bool c1) <| .e) [] .e (by kernel_rfl)
    · rcases bifSome h with ⟨c2, h⟩ | ⟨c2, h⟩
      · obtain rfl := Option.some.inj h
        exact TrK.e hX sch_between 17 [6] [] [] (.o 11 (DLe.bool c0) <| .g g0 <| .o 19 (DLe.bool c1) <| .g g0 <| .o 26 (DLe.bool c2) <| .e) [] .e (by kernel_rfl)
      · obtain ⟨g1, h⟩ := guardSome h
        exact TrK.g hX sch_between 18 [0, 1, 2, 7] [] [] (.o 11 (DLe.bool c0) <| .g g0 <| .o 19 (DLe.bool c1) <| .g g0 <| .o 26 (DLe.bool c2) <| .o 13 (wr64 g1) <| .e) (hself (.l1 (x7 + 1)) r h m0 hm0) (by kernel_rfl) (by kernel_rfl)
  · obtain rfl := Option.some.inj h
    exact TrK.e hX sch_between 12 [6] [] [] (.o 11 (DLe.bool c0) <| .e) [] .e (by kernel_rfl)
theorem between_all (B : Nat) (N : Yard Tryd.prog GG 0) (l_ : List Int) (lo hi : Int) : ∀ (n : Nat) (pt : betweenPt) (r : Bool), between_m l_ lo hi n pt = some r → between_at n B N l_ lo hi r pt
  | 0, _, _, h => by cases h
  | n + 1, .l1 x7, r, h => between_p1 n B N (between_m l_ lo hi n) l_ lo hi (between_all B N l_ lo hi n) x7 r h
set_option maxRecDepth 100000 in
set_option maxHeartbeats 4000000 in
theorem between_ok {n : Nat} (l_ : List Int) (lo hi : Int) {r : Bool} (h : between n l_ lo hi = some r) : ES Tryd.prog GG 36 [.ints l_, .int .i64 lo, .int .i64 hi] [] (.bool r) [] true := by
  have hX : HX Fence.wide Tryd.prog := ⟨FOk.wide, by kernel_rfl⟩
  refine ES.of_trk Tryd.func36 (by kernel_rfl) (by kernel_rfl) noIter_nil (fun _ => rfl) fun B N => ?_
  have hself := between_all B N l_ lo hi n
  unfold between at h
  generalize between_m l_ lo hi n = self at h hself
  unfold between_l0 at h
  exact TrK.g hX sch_between 11 [0, 1, 2, 7] [] [] .e (TrK.enter n (by kernel_rfl) (hself (.l1 0) r h n (Nat.le_refl _))) (by kernel_rfl) (by kernel_rfl)


def a_different_7 : Prop := SOk (regF Tryd.f57 7) [] [0, 1, 2, 3, 4, 5, 6, 7, 8] []
theorem s_different_7 : a_different_7 := by unfold a_different_7 SOk; kernel_rfl
def sch_different : Sch := fun i => match i with
  | 7 => .ord [] [0, 1, 2, 3, 4, 5, 6, 7, 8] []
  | _ => .no
inductive differentPt where
  | l1 (x3 : Int)
  | l2 (x3 x4 : Int)
def different_l1 (n : Nat) (self : differentPt → Option Bool) (l_ : List Int) (x3 : Int) : Option Bool :=
  bif (decide (x3 < ((l_.length : Nat) : Int))) then
   self (.l2 x3 0)
  else
   some true
def different_l2 (n : Nat) (self : differentPt → Option Bool) (l_ : List Int) (x3 x4 : Int) : Option Bool :=
  bif (decide (x4 < x3)) then
   if ((0 : Int) ≤ x3 ∧ x3 < ((l_.length : Nat) : Int)) ∧ ((0 : Int) ≤ x4 ∧ x4 < ((l_.length : Nat) : Int)) then
    bif ((l_.getD ((x3).toNat) 0) == (l_.getD ((x4).toNat) 0)) then
     some false
    else
     if R64 (x4 + 1) then
      self (.l2 x3 (x4 + 1))
     else none
   else none
  else
   if R64 (x3 + 1) then
    self (.l1 (x3 + 1))
   else none
def different_l0 (n : Nat) (self : differentPt → Option Bool) (l_ : List Int) : Option Bool :=
  self (.l1 0)
def different_m (l_ : List Int) : Nat → differentPt → Option Bool
  | 0, _ => none
  | n + 1, .l1 x3 => different_l1 n (different_m l_ n) l_ x3
  | n + 1, .l2 x3 x4 => different_l2 n (different_m l_ n) l_ x3 x4
def different (n : Nat) (l_ : List Int) : Option Bool := different_l0 n (different_m l_ n) l_
/-- What the points stand for. -/
def different_at (n : Nat) (B : Nat) (N : Yard Tryd.prog GG 0) (l_ : List Int) (r : Bool) : differentPt → Prop
  | .l1 x3 => ∀ m0 : Nat, n ≤ m0 → TrK Tryd.prog GG Fence.wide (some B) 0 N (Fin Tryd.prog Tryd.f57 0 (.bool r) []) (toN m0 (atNC (bodyC Tryd.f57) 0 [])) ⟨frm 25 [(0, .ints l_), (3, .int .i64 x3)], []⟩
  | .l2 x3 x4 => ∀ m0 m1 : Nat, n ≤ m0 → n ≤ m1 → TrK Tryd.prog GG Fence.wide (some B) 0 N (Fin Tryd.prog Tryd.f57 0 (.bool r) []) (toN m1 (atNC (bodyC Tryd.f57) 2 [m0])) ⟨frm 25 [(0, .ints l_), (3, .int .i64 x3), (4, .int .i64 x4)], []⟩
set_option maxRecDepth 100000 in
set_option maxHeartbeats 4000000 in
theorem different_p1 (n B : Nat) (N : Yard Tryd.prog GG 0) (self : differentPt → Option Bool) (l_ : List Int) (hself : ∀ pt r, self pt = some r → different_at n B N l_ r pt) (x3 : Int) (r : Bool) (h : different_l1 n self l_ x3 = some r) : different_at (n + 1) B N l_ r (.l1 x3) := by
  have hX : HX Fence.wide Tryd.prog := ⟨FOk.wide, by kernel_rfl⟩
  intro m0 hm0
  refine TrK.round hm0 (by kernel_rfl) fun m0 hm0 => ?_
  unfold different_l1 at h
  rcases bifSome h with ⟨c0, h⟩ | ⟨c0, h⟩
  · exact TrK.g hX sch_different 15 [0, 3, 4] [] [] (.o 8 (DLe.bool c0) <| .e) (TrK.enter n (by kernel_rfl) (hself (.l2 x3 0) r h m0 n hm0 (Nat.le_refl _))) (by kernel_rfl) (by kernel_rfl)
  · obtain rfl := Option.some.inj h
    exact TrK.e hX sch_different 12 [2] [] [] (.o 8 (DLe.bool c0) <| .e) [] .e (by kernel_rfl)
set_option maxRecDepth 100000 in
set_option maxHeartbeats 4000000 in
theorem different_p2 (n B : Nat) (N : Yard Tryd.prog GG 0) (self : differentPt → Option Bool) (l_ : List Int) (hself : ∀ pt r, self pt = some r → different_at n B N l_ r pt) (x3 x4 : Int) (r : Bool) (h : different_l2 n self l_ x3 x4 = some r) : different_at (n + 1) B N l_ r (.l2 x3 x4) := by
  have hX : HX Fence.wide Tryd.prog := ⟨FOk.wide, by kernel_rfl⟩
  intro m0 m1 hm0 hm1
  have hm0 := Nat.le_of_succ_le hm0
  refine TrK.round hm1 (by kernel_rfl) fun m1 hm1 => ?_
  unfold different_l2 at h
  rcases bifSome h with ⟨c0, h⟩ | ⟨c0, h⟩
  · obtain ⟨⟨g0, g1⟩, h⟩ := guardSome h
    rcases bifSome h with ⟨c1, h⟩ | ⟨c1, h⟩
    · obtain rfl := Option.some.inj h
      exact TrK.e hX sch_different 17 [2] [] [] (.o 13 (DLe.bool c0) <| .g s_different_7 <| .g g0 <| .g g1 <| .o 24 (DLe.bool c1) <| .e) [] .e (by kernel_rfl)
    · obtain ⟨g2, h⟩ := guardSome h
      exact TrK.g hX sch_different 18 [0, 3, 4] [] [] (.o 13 (DLe.bool c0) <| .g s_different_7 <| .g g0 <| .g g1 <| .o 24 (DLe.bool c1) <| .o 15 (wr64 g2) <| .e) (hself (.l2 x3 (x4 + 1)) r h m0 m1 hm0 hm1) (by kernel_rfl) (by kernel_rfl)
  · obtain ⟨g0, h⟩ := guardSome h
    exact TrK.g hX sch_different 12 [0, 3] [] [] (.o 13 (DLe.bool c0) <| .o 10 (wr64 g0) <| .e) (hself (.l1 (x3 + 1)) r h m0 hm0) (by kernel_rfl) (by kernel_rfl)
theorem different_all (B : Nat) (N : Yard Tryd.prog GG 0) (l_ : List Int) : ∀ (n : Nat) (pt : differentPt) (r : Bool), different_m l_ n pt = some r → different_at n B N l_ r pt
  | 0, _, _, h => by cases h
  | n + 1, .l1 x3, r, h => different_p1 n B N (different_m l_ n) l_ (different_all B N l_ n) x3 r h
  | n + 1, .l2 x3 x4, r, h => different_p2 n B N (different_m l_ n) l_ (different_all B N l_ n) x3 x4 r h
set_option maxRecDepth 100000 in
set_option maxHeartbeats 4000000 in
theorem different_ok {n : Nat} (l_ : List Int) {r : Bool} (h : different n l_ = some r) : ES Tryd.prog GG 57 [.ints l_] [] (.bool r) [] true := by
  have hX : HX Fence.wide Tryd.prog := ⟨FOk.wide, by kernel_rfl⟩
  refine ES.of_trk Tryd.func57 (by kernel_rfl) (by kernel_rfl) noIter_nil (fun _ => rfl) fun B N => ?_
  have hself := different_all B N l_ n
  unfold different at h
  generalize different_m l_ n = self at h hself
  unfold different_l0 at h
  exact TrK.g hX sch_different 11 [0, 3] [] [] .e (TrK.enter n (by kernel_rfl) (hself (.l1 0) r h n (Nat.le_refl _))) (by kernel_rfl) (by kernel_rfl)


def sch_indexI : Sch := fun i => match i with
  | _ => .no
inductive indexIPt where
  | l1 (x8 : Int)
def indexI_l1 (n : Nat) (self : indexIPt → Option Int) (s_ : List Int) (v : Int) (x8 : Int) : Option Int :=
  bif (decide (x8 < ((s_.length : Nat) : Int))) then
   if (0 : Int) ≤ x8 ∧ x8 < ((s_.length : Nat) : Int) then
    bif (v == (s_.getD ((x8).toNat) 0)) then
     some x8
    else
     if R64 (x8 + 1) then
      self (.l1 (x8 + 1))
     else none
   else none
  else
   some (-1)
def indexI_l0 (n : Nat) (self : indexIPt → Option Int) (s_ : List Int) (v : Int) : Option Int :=
  self (.l1 0)
def indexI_m (s_ : List Int) (v : Int) : Nat → indexIPt → Option Int
  | 0, _ => none
  | n + 1, .l1 x8 => indexI_l1 n (indexI_m s_ v n) s_ v x8
def indexI (n : Nat) (s_ : List Int) (v : Int) : Option Int := indexI_l0 n (indexI_m s_ v n) s_ v
/-- What the points stand for. -/
def indexI_at (n : Nat) (B : Nat) (N : Yard Tryd.prog GG 0) (s_ : List Int) (v : Int) (r : Int) : indexIPt → Prop
  | .l1 x8 => ∀ m0 : Nat, n ≤ m0 → TrK Tryd.prog GG Fence.wide (some B) 0 N (Fin Tryd.prog Tryd.f72 0 (.int .i64 r) []) (toN m0 (atNC (bodyC Tryd.f72) 0 [])) ⟨frm 19 [(0, .ints s_), (1, .int .i64 v), (7, .int .i64 ((s_.length : Nat) : Int)), (8, .int .i64 x8)], []⟩
set_option maxRecDepth 100000 in
set_option maxHeartbeats 4000000 in
theorem indexI_p1 (n B : Nat) (N : Yard Tryd.prog GG 0) (self : indexIPt → Option Int) (s_ : List Int) (v : Int) (hself : ∀ pt r, self pt = some r → indexI_at n B N s_ v r pt) (x8 : Int) (r : Int) (h : indexI_l1 n self s_ v x8 = some r) : indexI_at (n + 1) B N s_ v r (.l1 x8) := by
  have hX : HX Fence.wide Tryd.prog := ⟨FOk.wide, by kernel_rfl⟩
  intro m0 hm0
  refine TrK.round hm0 (by kernel_rfl) fun m0 hm0 => ?_
  unfold indexI_l1 at h
  rcases bifSome h with ⟨c0, h⟩ | ⟨c0, h⟩
  · obtain ⟨g0, h⟩ := guardSome h
    rcases bifSome h with ⟨c1, h⟩ | ⟨c1, h⟩
    · obtain rfl := Option.some.inj h
      exact TrK.e hX sch_indexI 19 [4] [] [] (.o 9 (DLe.bool c0) <| .g g0 <| .o 16 (DLe.bool c1) <| .e) [] .e (by kernel_rfl)
    · obtain ⟨g1, h⟩ := guardSome h
      exact TrK.g hX sch_indexI 20 [0, 1, 7, 8] [] [] (.o 9 (DLe.bool c0) <| .g g0 <| .o 16 (DLe.bool c1) <| .o 18 (wr64 g1) <| .e) (hself (.l1 (x8 + 1)) r h m0 hm0) (by kernel_rfl) (by kernel_rfl)
  · cases h
    exact TrK.e hX sch_indexI 12 [4] [] [] (.o 9 (DLe.bool c0) <| .e) [] .e (by kernel_rfl)
theorem indexI_all (B : Nat) (N : Yard Tryd.prog GG 0) (s_ : List Int) (v : Int) : ∀ (n : Nat) (pt : indexIPt) (r : Int), indexI_m s_ v n pt = some r → indexI_at n B N s_ v r pt
  | 0, _, _, h => by cases h
  | n + 1, .l1 x8, r, h => indexI_p1 n B N (indexI_m s_ v n) s_ v (indexI_all B N s_ v n) x8 r h
set_option maxRecDepth 100000 in
set_option maxHeartbeats 4000000 in
theorem indexI_ok {n : Nat} (s_ : List Int) (v : Int) {r : Int} (h : indexI n s_ v = some r) : ES Tryd.prog GG 72 [.ints s_, .int .i64 v] [] (.int .i64 r) [] true := by
  have hX : HX Fence.wide Tryd.prog := ⟨FOk.wide, by kernel_rfl⟩
  refine ES.of_trk Tryd.func72 (by kernel_rfl) (by kernel_rfl) noIter_nil (fun _ => rfl) fun B N => ?_
  have hself := indexI_all B N s_ v n
  unfold indexI at h
  generalize indexI_m s_ v n = self at h hself
  unfold indexI_l0 at h
  exact TrK.g hX sch_indexI 11 [0, 1, 7, 8] [] [] .e (TrK.enter n (by kernel_rfl) (hself (.l1 0) r h n (Nat.le_refl _))) (by kernel_rfl) (by kernel_rfl)


def sch_indexB : Sch := fun i => match i with
  | _ => .no
inductive indexBPt where
  | l1 (x8 : Int)
def indexB_l1 (n : Nat) (self : indexBPt → Option Int) (s_ : List Bool) (v : Bool) (x8 : Int) : Option Int :=
  bif (decide (x8 < ((s_.length : Nat) : Int))) then
   if (0 : Int) ≤ x8 ∧ x8 < ((s_.length : Nat) : Int) then
    bif (v == (s_.getD ((x8).toNat) false)) then
     some x8
    else
     if R64 (x8 + 1) then
      self (.l1 (x8 + 1))
     else none
   else none
  else
   some (-1)
def indexB_l0 (n : Nat) (self : indexBPt → Option Int) (s_ : List Bool) (v : Bool) : Option Int :=
  self (.l1 0)
def indexB_m (s_ : List Bool) (v : Bool) : Nat → indexBPt → Option Int
  | 0, _ => none
  | n + 1, .l1 x8 => indexB_l1 n (indexB_m s_ v n) s_ v x8
def indexB (n : Nat) (s_ : List Bool) (v : Bool) : Option Int := indexB_l0 n (indexB_m s_ v n) s_ v
/-- What the points stand for. -/
def indexB_at (n : Nat) (B : Nat) (N : Yard Tryd.prog GG 0) (s_ : List Bool) (v : Bool) (r : Int) : indexBPt → Prop
  | .l1 x8 => ∀ m0 : Nat, n ≤ m0 → TrK Tryd.prog GG Fence.wide (some B) 0 N (Fin Tryd.prog Tryd.f74 0 (.int .i64 r) []) (toN m0 (atNC (bodyC Tryd.f74) 0 [])) ⟨frm 19 [(0, .bools s_), (1, .bool v), (7, .int .i64 ((s_.length : Nat) : Int)), (8, .int .i64 x8)], []⟩
set_option maxRecDepth 100000 in
set_option maxHeartbeats 4000000 in
theorem indexB_p1 (n B : Nat) (N : Yard Tryd.prog GG 0) (self : indexBPt → Option Int) (s_ : List Bool) (v : Bool) (hself : ∀ pt r, self pt = some r → indexB_at n B N s_ v r pt) (x8 : Int) (r : Int) (h : indexB_l1 n self s_ v x8 = some r) : indexB_at (n + 1) B N s_ v r (.l1 x8) := by
  have hX : HX Fence.wide Tryd.prog := ⟨FOk.wide, by kernel_rfl⟩
  intro m0 hm0
  refine TrK.round hm0 (by kernel_rfl) fun m0 hm0 => ?_
  unfold indexB_l1 at h
  rcases bifSome h with ⟨c0, h⟩ | ⟨c0, h⟩
  · obtain ⟨g0, h⟩ := guardSome h
    rcases bifSome h with ⟨c1, h⟩ | ⟨c1, h⟩
    · obtain rfl := Option.some.inj h
      exact TrK.e hX sch_indexB 19 [4] [] [] (.o 9 (DLe.bool c0) <| .g g0 <| .o 16 (DLe.bool c1) <| .e) [] .e (by kernel_rfl)
    · obtain ⟨g1, h⟩ := guardSome h
      exact TrK.g hX sch_indexB 20 [0, 1, 7, 8] [] [] (.o 9 (DLe.bool c0) <| .g g0 <| .o 16 (DLe.bool c1) <| .o 18 (wr64 g1) <| .e) (hself (.l1 (x8 + 1)) r h m0 hm0) (by kernel_rfl) (by kernel_rfl)
  · cases h
    exact TrK.e hX sch_indexB 12 [4] [] [] (.o 9 (DLe.bool c0) <| .e) [] .e (by kernel_rfl)
theorem indexB_all (B : Nat) (N : Yard Tryd.prog GG 0) (s_ : List Bool) (v : Bool) : ∀ (n : Nat) (pt : indexBPt) (r : Int), indexB_m s_ v n pt = some r → indexB_at n B N s_ v r pt
  | 0, _, _, h => by cases h
  | n + 1, .l1 x8, r, h => indexB_p1 n B N (indexB_m s_ v n) s_ v (indexB_all B N s_ v n) x8 r h
set_option maxRecDepth 100000 in
set_option maxHeartbeats 4000000 in
theorem indexB_ok {n : Nat} (s_ : List Bool) (v : Bool) {r : Int} (h : indexB n s_ v = some r) : ES Tryd.prog GG 74 [.bools s_, .bool v] [] (.int .i64 r) [] true := by
  have hX : HX Fence.wide Tryd.prog := ⟨FOk.wide, by kernel_rfl⟩
  refine ES.of_trk Tryd.func74 (by kernel_rfl) (by kernel_rfl) noIter_nil (fun _ => rfl) fun B N => ?_
  have hself := indexB_all B N s_ v n
  unfold indexB at h
  generalize indexB_m s_ v n = self at h hself
  unfold indexB_l0 at h
  exact TrK.g hX sch_indexB 11 [0, 1, 7, 8] [] [] .e (TrK.enter n (by kernel_rfl) (hself (.l1 0) r h n (Nat.le_refl _))) (by kernel_rfl) (by kernel_rfl)


def sch_containsI : Sch := fun i => match i with
  | _ => .no
def containsI_l0 (n : Nat) (s_ : List Int) (v : Int) : Option Bool :=
  (indexI n s_ v).bind fun y1 =>
   some (decide (y1 ≥ 0))
def containsI (n : Nat) (s_ : List Int) (v : Int) : Option Bool := containsI_l0 n s_ v
set_option maxRecDepth 100000 in
set_option maxHeartbeats 4000000 in
theorem containsI_ok {n : Nat} (s_ : List Int) (v : Int) {r : Bool} (h : containsI n s_ v = some r) : ES Tryd.prog GG 54 [.ints s_, .int .i64 v] [] (.bool r) [] true := by
  have hX : HX Fence.wide Tryd.prog := ⟨FOk.wide, by kernel_rfl⟩
  refine ES.of_trk Tryd.func54 (by kernel_rfl) (by kernel_rfl) noIter_nil (fun _ => rfl) fun B N => ?_
  unfold containsI at h
  unfold containsI_l0 at h
  obtain ⟨y1, hy1, h⟩ := bindSome h
  cases h
  exact TrK.e hX sch_containsI 9 [4] [] [] (.c (ES.frameB (indexI_ok s_ v hy1) [] (by kernel_rfl)) <| .e) [] .e (by kernel_rfl)


def sch_rcheck : Sch := fun i => match i with
  | _ => .no
inductive rcheckPt where
  | l1 (x3 : Int)
  | l2 (x3 x4 : Int)
def rcheck_l1 (n : Nat) (self : rcheckPt → Option Int) (g_ : List (List Int)) (x3 : Int) : Option Int :=
  bif (decide (x3 < ((g_.length : Nat) : Int))) then
   self (.l2 x3 0)
  else
   some 0
def rcheck_l2 (n : Nat) (self : rcheckPt → Option Int) (g_ : List (List Int)) (x3 x4 : Int) : Option Int :=
  if (0 : Int) ≤ x3 ∧ x3 < ((g_.length : Nat) : Int) then
   bif (decide (x4 < (((g_.getD ((x3).toNat) []).length : Nat) : Int))) then
    if (0 : Int) ≤ x4 ∧ x4 < (((g_.getD ((x3).toNat) []).length : Nat) : Int) then
     bif (decide (((g_.getD ((x3).toNat) []).getD ((x4).toNat) 0) < 0)) then
      some 120
     else
      bif (decide (((g_.getD ((x3).toNat) []).getD ((x4).toNat) 0) ≥ ((g_.length : Nat) : Int))) then
       some 120
      else
       bif (((g_.getD ((x3).toNat) []).getD ((x4).toNat) 0) == x3) then
        some 120
       else
        bif (decide (x4 > 0)) then
         if R64 (x4 - 1) ∧ ((0 : Int) ≤ (x4 - 1) ∧ (x4 - 1) < (((g_.getD ((x3).toNat) []).length : Nat) : Int)) then
          bif (decide (((g_.getD ((x3).toNat) []).getD (((x4 - 1)).toNat) 0) ≥ ((g_.getD ((x3).toNat) []).getD ((x4).toNat) 0))) then
           some 120
          else
           if (0 : Int) ≤ ((g_.getD ((x3).toNat) []).getD ((x4).toNat) 0) ∧ ((g_.getD ((x3).toNat) []).getD ((x4).toNat) 0) < ((g_.length : Nat) : Int) then
            (has n (g_.getD (((g_.getD ((x3).toNat) []).getD ((x4).toNat) 0).toNat) []) x3).bind fun y1 =>
             bif (!y1) then
              some 120
             else
              if R64 (x4 + 1) then
               self (.l2 x3 (x4 + 1))
              else none
           else none
         else none
        else
         if (0 : Int) ≤ ((g_.getD ((x3).toNat) []).getD ((x4).toNat) 0) ∧ ((g_.getD ((x3).toNat) []).getD ((x4).toNat) 0) < ((g_.length : Nat) : Int) then
          (has n (g_.getD (((g_.getD ((x3).toNat) []).getD ((x4).toNat) 0).toNat) []) x3).bind fun y1 =>
           bif (!y1) then
            some 120
           else
            if R64 (x4 + 1) then
             self (.l2 x3 (x4 + 1))
            else none
         else none
    else none
   else
    if R64 (x3 + 1) then
     self (.l1 (x3 + 1))
    else none
  else none
def rcheck_l0 (n : Nat) (self : rcheckPt → Option Int) (g_ : List (List Int)) : Option Int :=
  bif (decide (((g_.length : Nat) : Int) > 256)) then
   some 120
  else
   self (.l1 0)
def rcheck_m (g_ : List (List Int)) : Nat → rcheckPt → Option Int
  | 0, _ => none
  | n + 1, .l1 x3 => rcheck_l1 n (rcheck_m g_ n) g_ x3
  | n + 1, .l2 x3 x4 => rcheck_l2 n (rcheck_m g_ n) g_ x3 x4
def rcheck (n : Nat) (g_ : List (List Int)) : Option Int := rcheck_l0 n (rcheck_m g_ n) g_
/-- What the points stand for. -/
def rcheck_at (n : Nat) (B : Nat) (N : Yard Tryd.prog GG 0) (g_ : List (List Int)) (r : Int) : rcheckPt → Prop
  | .l1 x3 => ∀ m0 : Nat, n ≤ m0 → TrK Tryd.prog GG Fence.wide (some B) 0 N (Fin Tryd.prog Tryd.f37 0 (.int .i64 r) []) (toN m0 (atNC (bodyC Tryd.f37) 0 [])) ⟨frm 69 [(0, .sl 1 g_.length (rowE intsC g_)), (3, .int .i64 x3)], []⟩
  | .l2 x3 x4 => ∀ m0 m1 : Nat, n ≤ m0 → n ≤ m1 → TrK Tryd.prog GG Fence.wide (some B) 0 N (Fin Tryd.prog Tryd.f37 0 (.int .i64 r) []) (toN m1 (atNC (bodyC Tryd.f37) 2 [m0])) ⟨frm 69 [(0, .sl 1 g_.length (rowE intsC g_)), (3, .int .i64 x3), (4, .int .i64 x4)], []⟩
set_option maxRecDepth 100000 in
set_option maxHeartbeats 4000000 in
theorem rcheck_p1 (n B : Nat) (N : Yard Tryd.prog GG 0) (self : rcheckPt → Option Int) (g_ : List (List Int)) (hself : ∀ pt r, self pt = some r → rcheck_at n B N g_ r pt) (x3 : Int) (r : Int) (h : rcheck_l1 n self g_ x3 = some r) : rcheck_at (n + 1) B N g_ r (.l1 x3) := by
  have hX : HX Fence.wide Tryd.prog := ⟨FOk.wide, by kernel_rfl⟩
  intro m0 hm0
  refine TrK.round hm0 (by kernel_rfl) fun m0 hm0 => ?_
  unfold rcheck_l1 at h
  rcases bifSome h with ⟨c0, h⟩ | ⟨c0, h⟩
  · exact TrK.g hX sch_rcheck 15 [0, 3, 4] [] [] (.o 12 (DLe.bool c0) <| .e) (TrK.enter n (by kernel_rfl) (hself (.l2 x3 0) r h m0 n hm0 (Nat.le_refl _))) (by kernel_rfl) (by kernel_rfl)
  · obtain rfl := Option.some.inj h
    exact TrK.e hX sch_rcheck 12 [2] [] [] (.o 12 (DLe.bool c0) <| .e) [] .e (by kernel_rfl)
set_option maxRecDepth 100000 in
set_option maxHeartbeats 4000000 in
theorem rcheck_p2 (n B : Nat) (N : Yard Tryd.prog GG 0) (self : rcheckPt → Option Int) (g_ : List (List Int)) (hself : ∀ pt r, self pt = some r → rcheck_at n B N g_ r pt) (x3 x4 : Int) (r : Int) (h : rcheck_l2 n self g_ x3 x4 = some r) : rcheck_at (n + 1) B N g_ r (.l2 x3 x4) := by
  have hX : HX Fence.wide Tryd.prog := ⟨FOk.wide, by kernel_rfl⟩
  intro m0 m1 hm0 hm1
  have hm0 := Nat.le_of_succ_le hm0
  refine TrK.round hm1 (by kernel_rfl) fun m1 hm1 => ?_
  unfold rcheck_l2 at h
  obtain ⟨g0, h⟩ := guardSome h
  rcases bifSome h with ⟨c0, h⟩ | ⟨c0, h⟩
  · obtain ⟨g1, h⟩ := guardSome h
    rcases bifSome h with ⟨c1, h⟩ | ⟨c1, h⟩
    · obtain rfl := Option.some.inj h
      exact TrK.e hX sch_rcheck 19 [2] [] [] (.g g0 <| .o 21 (DLe.bool c0) <| .g g0 <| .g g1 <| .o 32 (DLe.bool c1) <| .e) [] .e (by kernel_rfl)
    · rcases bifSome h with ⟨c2, h⟩ | ⟨c2, h⟩
      · obtain rfl := Option.some.inj h
        exact TrK.e hX sch_rcheck 19 [2] [] [] (.g g0 <| .o 21 (DLe.bool c0) <| .g g0 <| .g g1 <| .o 32 (DLe.bool c1) <| .o 37 (DLe.bool c2) <| .e) [] .e (by kernel_rfl)
      · rcases bifSome h with ⟨c3, h⟩ | ⟨c3, h⟩
        · obtain rfl := Option.some.inj h
          exact TrK.e hX sch_rcheck 19 [2] [] [] (.g g0 <| .o 21 (DLe.bool c0) <| .g g0 <| .g g1 <| .o 32 (DLe.bool c1) <| .o 37 (DLe.bool c2) <| .o 42 (DLe.bool c3) <| .e) [] .e (by kernel_rfl)
        · rcases bifSome h with ⟨c4, h⟩ | ⟨c4, h⟩
          · obtain ⟨⟨g2, g3⟩, h⟩ := guardSome h
            rcases bifSome h with ⟨c5, h⟩ | ⟨c5, h⟩
            · obtain rfl := Option.some.inj h
              exact TrK.e hX sch_rcheck 19 [2] [] [] (.g g0 <| .o 21 (DLe.bool c0) <| .g g0 <| .g g1 <| .o 32 (DLe.bool c1) <| .o 37 (DLe.bool c2) <| .o 42 (DLe.bool c3) <| .o 46 (DLe.bool c4) <| .g g0 <| .o 53 (wr64 g2) <| .g g3 <| .o 57 (DLe.bool c5) <| .e) [] .e (by kernel_rfl)
            · obtain ⟨g4, h⟩ := guardSome h
              obtain ⟨y1, hy1, h⟩ := bindSome h
              rcases bifSome h with ⟨c6, h⟩ | ⟨c6, h⟩
              · obtain rfl := Option.some.inj h
                exact TrK.e hX sch_rcheck 19 [2] [] [] (.g g0 <| .o 21 (DLe.bool c0) <| .g g0 <| .g g1 <| .o 32 (DLe.bool c1) <| .o 37 (DLe.bool c2) <| .o 42 (DLe.bool c3) <| .o 46 (DLe.bool c4) <| .g g0 <| .o 53 (wr64 g2) <| .g g3 <| .o 57 (DLe.bool c5) <| .g g4 <| .c (ES.frameB (has_ok (g_.getD (((g_.getD ((x3).toNat) []).getD ((x4).toNat) 0).toNat) []) x3 hy1) [] (by kernel_rfl)) <| .o 67 (DLe.bool c6) <| .e) [] .e (by kernel_rfl)
              · obtain ⟨g5, h⟩ := guardSome h
                exact TrK.g hX sch_rcheck 20 [0, 3, 4] [] [] (.g g0 <| .o 21 (DLe.bool c0) <| .g g0 <| .g g1 <| .o 32 (DLe.bool c1) <| .o 37 (DLe.bool c2) <| .o 42 (DLe.bool c3) <| .o 46 (DLe.bool c4) <| .g g0 <| .o 53 (wr64 g2) <| .g g3 <| .o 57 (DLe.bool c5) <| .g g4 <| .c (ES.frameB (has_ok (g_.getD (((g_.getD ((x3).toNat) []).getD ((x4).toNat) 0).toNat) []) x3 hy1) [] (by kernel_rfl)) <| .o 67 (DLe.bool c6) <| .o 23 (wr64 g5) <| .e) (hself (.l2 x3 (x4 + 1)) r h m0 m1 hm0 hm1) (by kernel_rfl) (by kernel_rfl)
          · obtain ⟨g2, h⟩ := guardSome h
            obtain ⟨y1, hy1, h⟩ := bindSome h
            rcases bifSome h with ⟨c5, h⟩ | ⟨c5, h⟩
            · obtain rfl := Option.some.inj h
              exact TrK.e hX sch_rcheck 19 [2] [] [] (.g g0 <| .o 21 (DLe.bool c0) <| .g g0 <| .g g1 <| .o 32 (DLe.bool c1) <| .o 37 (DLe.bool c2) <| .o 42 (DLe.bool c3) <| .o 46 (DLe.bool c4) <| .g g2 <| .c (ES.frameB (has_ok (g_.getD (((g_.getD ((x3).toNat) []).getD ((x4).toNat) 0).toNat) []) x3 hy1) [] (by kernel_rfl)) <| .o 67 (DLe.bool c5) <| .e) [] .e (by kernel_rfl)
            · obtain ⟨g3, h⟩ := guardSome h
              exact TrK.g hX sch_rcheck 20 [0, 3, 4] [] [] (.g g0 <| .o 21 (DLe.bool c0) <| .g g0 <| .g g1 <| .o 32 (DLe.bool c1) <| .o 37 (DLe.bool c2) <| .o 42 (DLe.bool c3) <| .o 46 (DLe.bool c4) <| .g g2 <| .c (ES.frameB (has_ok (g_.getD (((g_.getD ((x3).toNat) []).getD ((x4).toNat) 0).toNat) []) x3 hy1) [] (by kernel_rfl)) <| .o 67 (DLe.bool c5) <| .o 23 (wr64 g3) <| .e) (hself (.l2 x3 (x4 + 1)) r h m0 m1 hm0 hm1) (by kernel_rfl) (by kernel_rfl)
  · obtain ⟨g1, h⟩ := guardSome h
    exact TrK.g hX sch_rcheck 12 [0, 3] [] [] (.g g0 <| .o 21 (DLe.bool c0) <| .o 14 (wr64 g1) <| .e) (hself (.l1 (x3 + 1)) r h m0 hm0) (by kernel_rfl) (by kernel_rfl)
theorem rcheck_all (B : Nat) (N : Yard Tryd.prog GG 0) (g_ : List (List Int)) : ∀ (n : Nat) (pt : rcheckPt) (r : Int), rcheck_m g_ n pt = some r → rcheck_at n B N g_ r pt
  | 0, _, _, h => by cases h
  | n + 1, .l1 x3, r, h => rcheck_p1 n B N (rcheck_m g_ n) g_ (rcheck_all B N g_ n) x3 r h
  | n + 1, .l2 x3 x4, r, h => rcheck_p2 n B N (rcheck_m g_ n) g_ (rcheck_all B N g_ n) x3 x4 r h
set_option maxRecDepth 100000 in
set_option maxHeartbeats 4000000 in
theorem rcheck_ok {n : Nat} (g_ : List (List Int)) {r : Int} (h : rcheck n g_ = some r) : ES Tryd.prog GG 37 [.sl 1 g_.length (rowE intsC g_)] [] (.int .i64 r) [] true := by
  have hX : HX Fence.wide Tryd.prog := ⟨FOk.wide, by kernel_rfl⟩
  refine ES.of_trk Tryd.func37 (by kernel_rfl) (by kernel_rfl) noIter_nil (fun _ => rfl) fun B N => ?_
  have hself := rcheck_all B N g_ n
  unfold rcheck at h
  generalize rcheck_m g_ n = self at h hself
  unfold rcheck_l0 at h
  rcases bifSome h with ⟨c0, h⟩ | ⟨c0, h⟩
  · obtain rfl := Option.some.inj h
    exact TrK.e hX sch_rcheck 13 [2] [] [] (.o 8 (DLe.bool c0) <| .e) [] .e (by kernel_rfl)
  · exact TrK.g hX sch_rcheck 16 [0, 3] [] [] (.o 8 (DLe.bool c0) <| .e) (TrK.enter n (by kernel_rfl) (hself (.l1 0) r h n (Nat.le_refl _))) (by kernel_rfl) (by kernel_rfl)


def sch_gcheck : Sch := fun i => match i with
  | _ => .no
inductive gcheckPt where
  | l1 (x12 : Int)
  | l2 (x3 : Int) (x4 : List Int) (x12 : Int) (x17 : List Int) (x18 x19 : Int)
def gcheck_l1 (n : Nat) (self : gcheckPt → Option Int) (g_ : List (List Int)) (x12 : Int) : Option Int :=
  bif (decide (x12 < ((g_.length : Nat) : Int))) then
   if (0 : Int) ≤ x12 ∧ x12 < ((g_.length : Nat) : Int) then
    self (.l2 x12 (g_.getD ((x12).toNat) []) x12 (g_.getD ((x12).toNat) []) (((g_.getD ((x12).toNat) []).length : Nat) : Int) 0)
   else none
  else
   some 0
def gcheck_l2 (n : Nat) (self : gcheckPt → Option Int) (g_ : List (List Int)) (x3 : Int) (x4 : List Int) (x12 : Int) (x17 : List Int) (x18 x19 : Int) : Option Int :=
  bif (decide (x19 < x18)) then
   if (0 : Int) ≤ x19 ∧ x19 < ((x17.length : Nat) : Int) then
    bif (decide ((x17.getD ((x19).toNat) 0) < 0)) then
     some 120
    else
     bif (decide ((x17.getD ((x19).toNat) 0) ≥ ((g_.length : Nat) : Int))) then
      some 120
     else
      bif ((x17.getD ((x19).toNat) 0) == x3) then
       some 120
      else
       bif (decide (x19 > 0)) then
        if R64 (x19 - 1) ∧ ((0 : Int) ≤ (x19 - 1) ∧ (x19 - 1) < ((x4.length : Nat) : Int)) then
         bif (decide ((x4.getD (((x19 - 1)).toNat) 0) ≥ (x17.getD ((x19).toNat) 0))) then
          some 120
         else
          if (0 : Int) ≤ (x17.getD ((x19).toNat) 0) ∧ (x17.getD ((x19).toNat) 0) < ((g_.length : Nat) : Int) then
           (containsI n (g_.getD ((x17.getD ((x19).toNat) 0).toNat) []) x3).bind fun y1 =>
            bif (!y1) then
             some 120
            else
             if R64 (x19 + 1) then
              self (.l2 x3 x4 x12 x17 x18 (x19 + 1))
             else none
          else none
        else none
       else
        if (0 : Int) ≤ (x17.getD ((x19).toNat) 0) ∧ (x17.getD ((x19).toNat) 0) < ((g_.length : Nat) : Int) then
         (containsI n (g_.getD ((x17.getD ((x19).toNat) 0).toNat) []) x3).bind fun y1 =>
          bif (!y1) then
           some 120
          else
           if R64 (x19 + 1) then
            self (.l2 x3 x4 x12 x17 x18 (x19 + 1))
           else none
        else none
   else none
  else
   if R64 (x12 + 1) then
    self (.l1 (x12 + 1))
   else none
def gcheck_l0 (n : Nat) (self : gcheckPt → Option Int) (g_ : List (List Int)) : Option Int :=
  bif (decide (((g_.length : Nat) : Int) > 256)) then
   some 120
  else
   self (.l1 0)
def gcheck_m (g_ : List (List Int)) : Nat → gcheckPt → Option Int
  | 0, _ => none
  | n + 1, .l1 x12 => gcheck_l1 n (gcheck_m g_ n) g_ x12
  | n + 1, .l2 x3 x4 x12 x17 x18 x19 => gcheck_l2 n (gcheck_m g_ n) g_ x3 x4 x12 x17 x18 x19
def gcheck (n : Nat) (g_ : List (List Int)) : Option Int := gcheck_l0 n (gcheck_m g_ n) g_
/-- What the points stand for. -/
def gcheck_at (n : Nat) (B : Nat) (N : Yard Tryd.prog GG 0) (g_ : List (List Int)) (r : Int) : gcheckPt → Prop
  | .l1 x12 => ∀ m0 : Nat, n ≤ m0 → TrK Tryd.prog GG Fence.wide (some B) 0 N (Fin Tryd.prog Tryd.f32 0 (.int .i64 r) []) (toN m0 (atNC (bodyC Tryd.f32) 0 [])) ⟨frm 61 [(0, .sl 1 g_.length (rowE intsC g_)), (10, .sl 1 g_.length (rowE intsC g_)), (11, .int .i64 ((g_.length : Nat) : Int)), (12, .int .i64 x12)], []⟩
  | .l2 x3 x4 x12 x17 x18 x19 => ∀ m0 m1 : Nat, n ≤ m0 → n ≤ m1 → TrK Tryd.prog GG Fence.wide (some B) 0 N (Fin Tryd.prog Tryd.f32 0 (.int .i64 r) []) (toN m1 (atNC (bodyC Tryd.f32) 2 [m0])) ⟨frm 61 [(0, .sl 1 g_.length (rowE intsC g_)), (3, .int .i64 x3), (4, .ints x4), (10, .sl 1 g_.length (rowE intsC g_)), (11, .int .i64 ((g_.length : Nat) : Int)), (12, .int .i64 x12), (17, .ints x17), (18, .int .i64 x18), (19, .int .i64 x19)], []⟩
set_option maxRecDepth 100000 in
set_option maxHeartbeats 4000000 in
theorem gcheck_p1 (n B : Nat) (N : Yard Tryd.prog GG 0) (self : gcheckPt → Option Int) (g_ : List (List Int)) (hself : ∀ pt r, self pt = some r → gcheck_at n B N g_ r pt) (x12 : Int) (r : Int) (h : gcheck_l1 n self g_ x12 = some r) : gcheck_at (n + 1) B N g_ r (.l1 x12) := by
  have hX : HX Fence.wide Tryd.prog := ⟨FOk.wide, by kernel_rfl⟩
  intro m0 hm0
  refine TrK.round hm0 (by kernel_rfl) fun m0 hm0 => ?_
  unfold gcheck_l1 at h
  rcases bifSome h with ⟨c0, h⟩ | ⟨c0, h⟩
  · obtain ⟨g0, h⟩ := guardSome h
    exact TrK.g hX sch_gcheck 17 [0, 3, 4, 10, 11, 12, 17, 18, 19] [] [] (.o 13 (DLe.bool c0) <| .g g0 <| .e) (TrK.enter n (by kernel_rfl) (hself (.l2 x12 (g_.getD ((x12).toNat) []) x12 (g_.getD ((x12).toNat) []) (((g_.getD ((x12).toNat) []).length : Nat) : Int) 0) r h m0 n hm0 (Nat.le_refl _))) (by kernel_rfl) (by kernel_rfl)
  · obtain rfl := Option.some.inj h
    exact TrK.e hX sch_gcheck 12 [2] [] [] (.o 13 (DLe.bool c0) <| .e) [] .e (by kernel_rfl)
set_option maxRecDepth 100000 in
set_option maxHeartbeats 4000000 in
theorem gcheck_p2 (n B : Nat) (N : Yard Tryd.prog GG 0) (self : gcheckPt → Option Int) (g_ : List (List Int)) (hself : ∀ pt r, self pt = some r → gcheck_at n B N g_ r pt) (x3 : Int) (x4 : List Int) (x12 : Int) (x17 : List Int) (x18 x19 : Int) (r : Int) (h : gcheck_l2 n self g_ x3 x4 x12 x17 x18 x19 = some r) : gcheck_at (n + 1) B N g_ r (.l2 x3 x4 x12 x17 x18 x19) := by
  have hX : HX Fence.wide Tryd.prog := ⟨FOk.wide, by kernel_rfl⟩
  intro m0 m1 hm0 hm1
  have hm0 := Nat.le_of_succ_le hm0
  refine TrK.round hm1 (by kernel_rfl) fun m1 hm1 => ?_
  unfold gcheck_l2 at h
  rcases bifSome h with ⟨c0, h⟩ | ⟨c0, h⟩
  · obtain ⟨g0, h⟩ := guardSome h
    rcases bifSome h with ⟨c1, h⟩ | ⟨c1, h⟩
    · obtain rfl := Option.some.inj h
      exact TrK.e hX sch_gcheck 19 [2] [] [] (.o 20 (DLe.bool c0) <| .g g0 <| .o 25 (DLe.bool c1) <| .e) [] .e (by kernel_rfl)
    · rcases bifSome h with ⟨c2, h⟩ | ⟨c2, h⟩
      · obtain rfl := Option.some.inj h
        exact TrK.e hX sch_gcheck 19 [2] [] [] (.o 20 (DLe.bool c0) <| .g g0 <| .o 25 (DLe.bool c1) <| .o 30 (DLe.bool c2) <| .e) [] .e (by kernel_rfl)
      · rcases bifSome h with ⟨c3, h⟩ | ⟨c3, h⟩
        · obtain rfl := Option.some.inj h
          exact TrK.e hX sch_gcheck 19 [2] [] [] (.o 20 (DLe.bool c0) <| .g g0 <| .o 25 (DLe.bool c1) <| .o 30 (DLe.bool c2) <| .o 35 (DLe.bool c3) <| .e) [] .e (by kernel_rfl)
        · rcases bifSome h with ⟨c4, h⟩ | ⟨c4, h⟩
          · obtain ⟨⟨g1, g2⟩, h⟩ := guardSome h
            rcases bifSome h with ⟨c5, h⟩ | ⟨c5, h⟩
            · obtain rfl := Option.some.inj h
              exact TrK.e hX sch_gcheck 19 [2] [] [] (.o 20 (DLe.bool c0) <| .g g0 <| .o 25 (DLe.bool c1) <| .o 30 (DLe.bool c2) <| .o 35 (DLe.bool c3) <| .o 39 (DLe.bool c4) <| .o 43 (wr64 g1) <| .g g2 <| .o 47 (DLe.bool c5) <| .e) [] .e (by kernel_rfl)
            · obtain ⟨g3, h⟩ := guardSome h
              obtain ⟨y1, hy1, h⟩ := bindSome h
              rcases bifSome h with ⟨c6, h⟩ | ⟨c6, h⟩
              · obtain rfl := Option.some.inj h
                exact TrK.e hX sch_gcheck 19 [2] [] [] (.o 20 (DLe.bool c0) <| .g g0 <| .o 25 (DLe.bool c1) <| .o 30 (DLe.bool c2) <| .o 35 (DLe.bool c3) <| .o 39 (DLe.bool c4) <| .o 43 (wr64 g1) <| .g g2 <| .o 47 (DLe.bool c5) <| .g g3 <| .c (ES.frameB (containsI_ok (g_.getD ((x17.getD ((x19).toNat) 0).toNat) []) x3 hy1) [] (by kernel_rfl)) <| .o 57 (DLe.bool c6) <| .e) [] .e (by kernel_rfl)
              · obtain ⟨g4, h⟩ := guardSome h
                exact TrK.g hX sch_gcheck 20 [0, 3, 4, 10, 11, 12, 17, 18, 19] [] [] (.o 20 (DLe.bool c0) <| .g g0 <| .o 25 (DLe.bool c1) <| .o 30 (DLe.bool c2) <| .o 35 (DLe.bool c3) <| .o 39 (DLe.bool c4) <| .o 43 (wr64 g1) <| .g g2 <| .o 47 (DLe.bool c5) <| .g g3 <| .c (ES.frameB (containsI_ok (g_.getD ((x17.getD ((x19).toNat) 0).toNat) []) x3 hy1) [] (by kernel_rfl)) <| .o 57 (DLe.bool c6) <| .o 59 (wr64 g4) <| .e) (hself (.l2 x3 x4 x12 x17 x18 (x19 + 1)) r h m0 m1 hm0 hm1) (by kernel_rfl) (by kernel_rfl)
          · obtain ⟨g1, h⟩ := guardSome h
            obtain ⟨y1, hy1, h⟩ := bindSome h
            rcases bifSome h with ⟨c5, h⟩ | ⟨c5, h⟩
            · obtain rfl := Option.some.inj h
              exact TrK.e hX sch_gcheck 19 [2] [] [] (.o 20 (DLe.bool c0) <| .g g0 <| .o 25 (DLe.bool c1) <| .o 30 (DLe.bool c2) <| .o 35 (DLe.bool c3) <| .o 39 (DLe.bool c4) <| .g g1 <| .c (ES.frameB (containsI_ok (g_.getD ((x17.getD ((x19).toNat) 0).toNat) []) x3 hy1) [] (by kernel_rfl)) <| .o 57 (DLe.bool c5) <| .e) [] .e (by kernel_rfl)
            · obtain ⟨g2, h⟩ := guardSome h
              exact TrK.g hX sch_gcheck 20 [0, 3, 4, 10, 11, 12, 17, 18, 19] [] [] (.o 20 (DLe.bool c0) <| .g g0 <| .o 25 (DLe.bool c1) <| .o 30 (DLe.bool c2) <| .o 35 (DLe.bool c3) <| .o 39 (DLe.bool c4) <| .g g1 <| .c (ES.frameB (containsI_ok (g_.getD ((x17.getD ((x19).toNat) 0).toNat) []) x3 hy1) [] (by kernel_rfl)) <| .o 57 (DLe.bool c5) <| .o 59 (wr64 g2) <| .e) (hself (.l2 x3 x4 x12 x17 x18 (x19 + 1)) r h m0 m1 hm0 hm1) (by kernel_rfl) (by kernel_rfl)
  · obtain ⟨g0, h⟩ := guardSome h
    exact TrK.g hX sch_gcheck 12 [0, 10, 11, 12] [] [] (.o 20 (DLe.bool c0) <| .o 60 (wr64 g0) <| .e) (hself (.l1 (x12 + 1)) r h m0 hm0) (by kernel_rfl) (by kernel_rfl)
theorem gcheck_all (B : Nat) (N : Yard Tryd.prog GG 0) (g_ : List (List Int)) : ∀ (n : Nat) (pt : gcheckPt) (r : Int), gcheck_m g_ n pt = some r → gcheck_at n B N g_ r pt
  | 0, _, _, h => by cases h
  | n + 1, .l1 x12, r, h => gcheck_p1 n B N (gcheck_m g_ n) g_ (gcheck_all B N g_ n) x12 r h
  | n + 1, .l2 x3 x4 x12 x17 x18 x19, r, h => gcheck_p2 n B N (gcheck_m g_ n) g_ (gcheck_all B N g_ n) x3 x4 x12 x17 x18 x19 r h
set_option maxRecDepth 100000 in
set_option maxHeartbeats 4000000 in
theorem gcheck_ok {n : Nat} (g_ : List (List Int)) {r : Int} (h : gcheck n g_ = some r) : ES Tryd.prog GG 32 [.sl 1 g_.length (rowE intsC g_)] [] (.int .i64 r) [] true := by
  have hX : HX Fence.wide Tryd.prog := ⟨FOk.wide, by kernel_rfl⟩
  refine ES.of_trk Tryd.func32 (by kernel_rfl) (by kernel_rfl) noIter_nil (fun _ => rfl) fun B N => ?_
  have hself := gcheck_all B N g_ n
  unfold gcheck at h
  generalize gcheck_m g_ n = self at h hself
  unfold gcheck_l0 at h
  rcases bifSome h with ⟨c0, h⟩ | ⟨c0, h⟩
  · obtain rfl := Option.some.inj h
    exact TrK.e hX sch_gcheck 13 [2] [] [] (.o 9 (DLe.bool c0) <| .e) [] .e (by kernel_rfl)
  · exact TrK.g hX sch_gcheck 16 [0, 10, 11, 12] [] [] (.o 9 (DLe.bool c0) <| .e) (TrK.enter n (by kernel_rfl) (hself (.l1 0) r h n (Nat.le_refl _))) (by kernel_rfl) (by kernel_rfl)


def sch_fewProblem : Sch := fun i => match i with
  | _ => .no
inductive fewProblemPt where
  | l1 (x3 : Int)
def fewProblem_l1 (n : Nat) (self : fewProblemPt → Option Bool) (q : ProbD) (x3 : Int) : Option Bool :=
  bif (decide (x3 < ((q.cons.length : Nat) : Int))) then
   if (0 : Int) ≤ x3 ∧ x3 < ((q.cons.length : Nat) : Int) then
    bif (decide (((((q.cons.getD ((x3).toNat) default).cells).length : Nat) : Int) > 20)) then
     some false
    else
     bif (decide (((((q.cons.getD ((x3).toNat) default).runs).length : Nat) : Int) > 10)) then
      some false
     else
      if R64 (x3 + 1) then
       self (.l1 (x3 + 1))
      else none
   else none
  else
   some true
def fewProblem_l0 (n : Nat) (self : fewProblemPt → Option Bool) (q : ProbD) : Option Bool :=
  bif (decide (q.cells > 16)) then
   some false
  else
   bif (decide (q.symbols > 6)) then
    some false
   else
    bif (decide (((q.values.length : Nat) : Int) > 8)) then
     some false
    else
     bif (decide (((q.nbrs.length : Nat) : Int) > 20)) then
      some false
     else
      bif (decide (((q.cons.length : Nat) : Int) > 120)) then
       some false
      else
       self (.l1 0)
def fewProblem_m (q : ProbD) : Nat → fewProblemPt → Option Bool
  | 0, _ => none
  | n + 1, .l1 x3 => fewProblem_l1 n (fewProblem_m q n) q x3
def fewProblem (n : Nat) (q : ProbD) : Option Bool := fewProblem_l0 n (fewProblem_m q n) q
/-- What the points stand for. -/
def fewProblem_at (n : Nat) (B : Nat) (N : Yard Tryd.prog GG 0) (q : ProbD) (r : Bool) : fewProblemPt → Prop
  | .l1 x3 => ∀ m0 : Nat, n ≤ m0 → TrK Tryd.prog GG Fence.wide (some B) 0 N (Fin Tryd.prog Tryd.f21 0 (.bool r) []) (toN m0 (atNC (bodyC Tryd.f21) 0 [])) ⟨frm 55 [(1, .ref 0 0), (3, .int .i64 x3)], [some (.cells (probC q))]⟩
set_option maxRecDepth 100000 in
set_option maxHeartbeats 4000000 in
theorem fewProblem_p1 (n B : Nat) (N : Yard Tryd.prog GG 0) (self : fewProblemPt → Option Bool) (q : ProbD) (hself : ∀ pt r, self pt = some r → fewProblem_at n B N q r pt) (x3 : Int) (r : Bool) (h : fewProblem_l1 n self q x3 = some r) : fewProblem_at (n + 1) B N q r (.l1 x3) := by
  have hX : HX Fence.wide Tryd.prog := ⟨FOk.wide, by kernel_rfl⟩
  intro m0 hm0
  refine TrK.round hm0 (by kernel_rfl) fun m0 hm0 => ?_
  unfold fewProblem_l1 at h
  rcases bifSome h with ⟨c0, h⟩ | ⟨c0, h⟩
  · obtain ⟨g0, h⟩ := guardSome h
    rcases bifSome h with ⟨c1, h⟩ | ⟨c1, h⟩
    · obtain rfl := Option.some.inj h
      exact TrK.e hX sch_fewProblem 17 [2] [] [] (.o 34 (DLe.bool c0) <| .g g0 <| .o 44 (DLe.bool c1) <| .e) [] .e (by kernel_rfl)
    · rcases bifSome h with ⟨c2, h⟩ | ⟨c2, h⟩
      · obtain rfl := Option.some.inj h
        exact TrK.e hX sch_fewProblem 17 [2] [] [] (.o 34 (DLe.bool c0) <| .g g0 <| .o 44 (DLe.bool c1) <| .g g0 <| .o 53 (DLe.bool c2) <| .e) [] .e (by kernel_rfl)
      · obtain ⟨g1, h⟩ := guardSome h
        exact TrK.g hX sch_fewProblem 18 [1, 3] [0] [] (.o 34 (DLe.bool c0) <| .g g0 <| .o 44 (DLe.bool c1) <| .g g0 <| .o 53 (DLe.bool c2) <| .o 36 (wr64 g1) <| .e) (hself (.l1 (x3 + 1)) r h m0 hm0) (by kernel_rfl) (by kernel_rfl)
  · obtain rfl := Option.some.inj h
    exact TrK.e hX sch_fewProblem 12 [2] [] [] (.o 34 (DLe.bool c0) <| .e) [] .e (by kernel_rfl)
theorem fewProblem_all (B : Nat) (N : Yard Tryd.prog GG 0) (q : ProbD) : ∀ (n : Nat) (pt : fewProblemPt) (r : Bool), fewProblem_m q n pt = some r → fewProblem_at n B N q r pt
  | 0, _, _, h => by cases h
  | n + 1, .l1 x3, r, h => fewProblem_p1 n B N (fewProblem_m q n) q (fewProblem_all B N q n) x3 r h
set_option maxRecDepth 100000 in
set_option maxHeartbeats 4000000 in
theorem fewProblem_ok {n : Nat} (q : ProbD) {r : Bool} (h : fewProblem n q = some r) : ES Tryd.prog GG 21 [.agg 5 (L1 (probC q))] [] (.bool r) [] true := by
  have hX : HX Fence.wide Tryd.prog := ⟨FOk.wide, by kernel_rfl⟩
  refine ES.of_trk Tryd.func21 (by kernel_rfl) (by kernel_rfl) noIter_nil (fun _ => rfl) fun B N => ?_
  have hself := fewProblem_all B N q n
  unfold fewProblem at h
  generalize fewProblem_m q n = self at h hself
  unfold fewProblem_l0 at h
  rcases bifSome h with ⟨c0, h⟩ | ⟨c0, h⟩
  · obtain rfl := Option.some.inj h
    exact TrK.e hX sch_fewProblem 13 [2] [] [] (.o 6 (DLe.bool c0) <| .e) [] .e (by kernel_rfl)
  · rcases bifSome h with ⟨c1, h⟩ | ⟨c1, h⟩
    · obtain rfl := Option.some.inj h
      exact TrK.e hX sch_fewProblem 13 [2] [] [] (.o 6 (DLe.bool c0) <| .o 10 (DLe.bool c1) <| .e) [] .e (by kernel_rfl)
    · rcases bifSome h with ⟨c2, h⟩ | ⟨c2, h⟩
      · obtain rfl := Option.some.inj h
        exact TrK.e hX sch_fewProblem 13 [2] [] [] (.o 6 (DLe.bool c0) <| .o 10 (DLe.bool c1) <| .o 16 (DLe.bool c2) <| .e) [] .e (by kernel_rfl)
      · rcases bifSome h with ⟨c3, h⟩ | ⟨c3, h⟩
        · obtain rfl := Option.some.inj h
          exact TrK.e hX sch_fewProblem 13 [2] [] [] (.o 6 (DLe.bool c0) <| .o 10 (DLe.bool c1) <| .o 16 (DLe.bool c2) <| .o 22 (DLe.bool c3) <| .e) [] .e (by kernel_rfl)
        · rcases bifSome h with ⟨c4, h⟩ | ⟨c4, h⟩
          · obtain rfl := Option.some.inj h
            exact TrK.e hX sch_fewProblem 13 [2] [] [] (.o 6 (DLe.bool c0) <| .o 10 (DLe.bool c1) <| .o 16 (DLe.bool c2) <| .o 22 (DLe.bool c3) <| .o 28 (DLe.bool c4) <| .e) [] .e (by kernel_rfl)
          · exact TrK.g hX sch_fewProblem 16 [1, 3] [0] [] (.o 6 (DLe.bool c0) <| .o 10 (DLe.bool c1) <| .o 16 (DLe.bool c2) <| .o 22 (DLe.bool c3) <| .o 28 (DLe.bool c4) <| .e) (TrK.enter n (by kernel_rfl) (hself (.l1 0) r h n (Nat.le_refl _))) (by kernel_rfl) (by kernel_rfl)


end Go.Proofs.YtekkngkphejfcaaDoor
