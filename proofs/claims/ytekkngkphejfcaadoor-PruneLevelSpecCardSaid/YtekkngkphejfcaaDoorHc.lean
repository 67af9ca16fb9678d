/- Functions read off the code: positions. -/
import Derived.Test.YtekkngkphejfcaaDoorHb
namespace Go.Proofs.YtekkngkphejfcaaDoor
open Go.RowKit

def sch_deadP : Sch := fun i => match i with
  | _ => .no
inductive deadPPt where
  | l1 (x7 : Int)
def deadP_l1 (n : Nat) (self : deadPPt → Option Bool) (sets : List Int) (x7 : Int) : Option Bool :=
  bif (decide (x7 < ((sets.length : Nat) : Int))) then
   if (0 : Int) ≤ x7 ∧ x7 < ((sets.length : Nat) : Int) then
    bif ((sets.getD ((x7).toNat) 0) == 0) then
     some true
    else
     if R64 (x7 + 1) then
      self (.l1 (x7 + 1))
     else none
   else none
  else
   some false
def deadP_l0 (n : Nat) (self : deadPPt → Option Bool) (sets : List Int) : Option Bool :=
  self (.l1 0)
def deadP_m (sets : List Int) : Nat → deadPPt → Option Bool
  | 0, _ => none
  | n + 1, .l1 x7 => deadP_l1 n (deadP_m sets n) sets x7
def deadP (n : Nat) (sets : List Int) : Option Bool := deadP_l0 n (deadP_m sets n) sets
/-- What the points stand for. -/
def deadP_at (n : Nat) (B : Nat) (N : Yard Tryd.prog GG 0) (sets : List Int) (r : Bool) : deadPPt → Prop
  | .l1 x7 => ∀ m0 : Nat, n ≤ m0 → TrK Tryd.prog GG Fence.wide (some B) 0 N (Fin Tryd.prog Tryd.f26 0 (.bool r) []) (toN m0 (atNC (bodyC Tryd.f26) 0 [])) ⟨frm 14 [(5, .ints sets), (6, .int .i64 ((sets.length : Nat) : Int)), (7, .int .i64 x7)], []⟩
set_option maxRecDepth 100000 in
set_option maxHeartbeats 4000000 in
theorem deadP_p1 (n B : Nat) (N : Yard Tryd.prog GG 0) (self : deadPPt → Option Bool) (sets : List Int) (hself : ∀ pt r, self pt = some r → deadP_at n B N sets r pt) (x7 : Int) (r : Bool) (h : deadP_l1 n self sets x7 = some r) : deadP_at (n + 1) B N sets r (.l1 x7) := by
  have hX : HX Fence.wide Tryd.prog := ⟨FOk.wide, by kernel_rfl⟩
  intro m0 hm0
  refine TrK.round hm0 (by kernel_rfl) fun m0 hm0 => ?_
  unfold deadP_l1 at h
  rcases bifSome h with ⟨c0, h⟩ | ⟨c0, h⟩
  · obtain ⟨g0, h⟩ := guardSome h
    rcases bifSome h with ⟨c1, h⟩ | ⟨c1, h⟩
    · obtain rfl := Option.some.inj h
      exact TrK.e hX sch_deadP 19 [2] [] [] (.o 8 (DLe.bool c0) <| .g g0 <| .o 12 (DLe.bool c1) <| .e) [] .e (by kernel_rfl)
    · obtain ⟨g1, h⟩ := guardSome h
      exact TrK.g hX sch_deadP 20 [5, 6, 7] [] [] (.o 8 (DLe.bool c0) <| .g g0 <| .o 12 (DLe.bool c1) <| .o 13 (wr64 g1) <| .e) (hself (.l1 (x7 + 1)) r h m0 hm0) (by kernel_rfl) (by kernel_rfl)
  · obtain rfl := Option.some.inj h
    exact TrK.e hX sch_deadP 12 [2] [] [] (.o 8 (DLe.bool c0) <| .e) [] .e (by kernel_rfl)
theorem deadP_all (B : Nat) (N : Yard Tryd.prog GG 0) (sets : List Int) : ∀ (n : Nat) (pt : deadPPt) (r : Bool), deadP_m sets n pt = some r → deadP_at n B N sets r pt
  | 0, _, _, h => by cases h
  | n + 1, .l1 x7, r, h => deadP_p1 n B N (deadP_m sets n) sets (deadP_all B N sets n) x7 r h
set_option maxRecDepth 100000 in
set_option maxHeartbeats 4000000 in
theorem deadP_ok {n : Nat} (sets : List Int) {r : Bool} (h : deadP n sets = some r) : ES Tryd.prog GG 26 [.ints sets] [] (.bool r) [] true := by
  have hX : HX Fence.wide Tryd.prog := ⟨FOk.wide, by kernel_rfl⟩
  refine ES.of_trk Tryd.func26 (by kernel_rfl) (by kernel_rfl) noIter_nil (fun _ => rfl) fun B N => ?_
  have hself := deadP_all B N sets n
  unfold deadP at h
  generalize deadP_m sets n = self at h hself
  unfold deadP_l0 at h
  exact TrK.g hX sch_deadP 11 [5, 6, 7] [] [] .e (TrK.enter n (by kernel_rfl) (hself (.l1 0) r h n (Nat.le_refl _))) (by kernel_rfl) (by kernel_rfl)


def sch_isDead : Sch := fun i => match i with
  | _ => .no
def isDead_l0 (n : Nat) (pos : List Int) : Option Bool :=
  (deadP n pos).bind fun y1 =>
   some y1
def isDead (n : Nat) (pos : List Int) : Option Bool := isDead_l0 n pos
set_option maxRecDepth 100000 in
set_option maxHeartbeats 4000000 in
theorem isDead_ok {n : Nat} (pos : List Int) {r : Bool} (h : isDead n pos = some r) : ES Tryd.prog GG 12 [.ints pos] [] (.bool r) [] true := by
  have hX : HX Fence.wide Tryd.prog := ⟨FOk.wide, by kernel_rfl⟩
  refine ES.of_trk Tryd.func12 (by kernel_rfl) (by kernel_rfl) noIter_nil (fun _ => rfl) fun B N => ?_
  unfold isDead at h
  unfold isDead_l0 at h
  obtain ⟨y1, hy1, h⟩ := bindSome h
  obtain rfl := Option.some.inj h
  exact TrK.e hX sch_isDead 9 [2] [] [] (.c (ES.frameB (deadP_ok pos hy1) [] (by kernel_rfl)) <| .e) [] .e (by kernel_rfl)


def sch_normalP : Sch := fun i => match i with
  | _ => .no
def normalP_l0 (n : Nat) (pos : List Int) : Option ((List Int)) :=
  (deadP n pos).bind fun y1 =>
   bif y1 then
    if (((pos.length : Nat) : Int) : Int) = ((pos.length : Nat) : Int) ∧ (0 : Int) ≤ ((pos.length : Nat) : Int) ∧ (((pos.length : Nat) : Int) : Int) ≤ 1000000000000 then
     if pos.length = (List.replicate pos.length (0 : Int)).length then
      some (List.replicate pos.length (0 : Int))
     else none
    else none
   else
    some pos
def normalP (n : Nat) (pos : List Int) : Option ((List Int)) := normalP_l0 n pos
set_option maxRecDepth 100000 in
set_option maxHeartbeats 4000000 in
theorem normalP_ok {n : Nat} (pos : List Int) {r : (List Int)} (h : normalP n pos = some r) : ES Tryd.prog GG 30 [.ints pos] [] (.ints r) [] true := by
  have hX : HX Fence.wide Tryd.prog := ⟨FOk.wide, by kernel_rfl⟩
  refine ES.of_trk Tryd.func30 (by kernel_rfl) (by kernel_rfl) noIter_nil (fun _ => rfl) fun B N => ?_
  unfold normalP at h
  unfold normalP_l0 at h
  obtain ⟨y1, hy1, h⟩ := bindSome h
  rcases bifSome h with ⟨c0, h⟩ | ⟨c0, h⟩
  · obtain ⟨g0, h⟩ := guardSome h
    obtain ⟨g1, h⟩ := guardSome h
    cases h
    exact TrK.e hX sch_normalP 13 [2] [0] [] (.c (ES.frameB (deadP_ok pos hy1) [] (by kernel_rfl)) <| .o 4 (DLe.bool c0) <| .g g0 <| .e) [0] (.g g1 <| .e) (by kernel_rfl)
  · obtain rfl := Option.some.inj h
    exact TrK.e hX sch_normalP 14 [2] [] [] (.c (ES.frameB (deadP_ok pos hy1) [] (by kernel_rfl)) <| .o 4 (DLe.bool c0) <| .e) [] .e (by kernel_rfl)


def sch_pcheck : Sch := fun i => match i with
  | _ => .no
inductive pcheckPt where
  | l1 (x20 : Int)
def pcheck_l1 (n : Nat) (self : pcheckPt → Option Int) (q : ProbD) (pos : List Int) (x20 : Int) : Option Int :=
  bif (decide (x20 < ((pos.length : Nat) : Int))) then
   if (0 : Int) ≤ x20 ∧ x20 < ((pos.length : Nat) : Int) then
    bif (decide ((pos.getD ((x20).toNat) 0) < 0)) then
     some 250
    else
     if (0 : Int) ≤ q.symbols ∧ q.symbols ≤ ((IntKind.i64.bits : Nat) : Int) then
      bif (decide ((pos.getD ((x20).toNat) 0) ≥ (IntKind.i64.wrap (1 * 2 ^ (q.symbols).toNat)))) then
       some 250
      else
       if R64 (x20 + 1) then
        self (.l1 (x20 + 1))
       else none
     else none
   else none
  else
   some 0
def pcheck_l0 (n : Nat) (self : pcheckPt → Option Int) (q : ProbD) (pos : List Int) : Option Int :=
  (valid n q).bind fun y1 =>
   bif (y1 != 0) then
    some y1
   else
    bif (((pos.length : Nat) : Int) != q.cells) then
     some 250
    else
     self (.l1 0)
def pcheck_m (q : ProbD) (pos : List Int) : Nat → pcheckPt → Option Int
  | 0, _ => none
  | n + 1, .l1 x20 => pcheck_l1 n (pcheck_m q pos n) q pos x20
def pcheck (n : Nat) (q : ProbD) (pos : List Int) : Option Int := pcheck_l0 n (pcheck_m q pos n) q pos
/-- What the points stand for. -/
def pcheck_at (n : Nat) (B : Nat) (N : Yard Tryd.prog GG 0) (q : ProbD) (pos : List Int) (r : Int) : pcheckPt → Prop
  | .l1 x20 => ∀ m0 : Nat, n ≤ m0 → TrK Tryd.prog GG Fence.wide (some B) 0 N (Fin Tryd.prog Tryd.f39 0 (.int .i64 r) []) (toN m0 (atNC (bodyC Tryd.f39) 0 [])) ⟨frm 34 [(2, .ref 0 0), (18, .ints pos), (19, .int .i64 ((pos.length : Nat) : Int)), (20, .int .i64 x20)], [some (.cells (probC q))]⟩
set_option maxRecDepth 100000 in
set_option maxHeartbeats 4000000 in
theorem pcheck_p1 (n B : Nat) (N : Yard Tryd.prog GG 0) (self : pcheckPt → Option Int) (q : ProbD) (pos : List Int) (hself : ∀ pt r, self pt = some r → pcheck_at n B N q pos r pt) (x20 : Int) (r : Int) (h : pcheck_l1 n self q pos x20 = some r) : pcheck_at (n + 1) B N q pos r (.l1 x20) := by
  have hX : HX Fence.wide Tryd.prog := ⟨FOk.wide, by kernel_rfl⟩
  intro m0 hm0
  refine TrK.round hm0 (by kernel_rfl) fun m0 hm0 => ?_
  unfold pcheck_l1 at h
  rcases bifSome h with ⟨c0, h⟩ | ⟨c0, h⟩
  · obtain ⟨g0, h⟩ := guardSome h
    rcases bifSome h with ⟨c1, h⟩ | ⟨c1, h⟩
    · obtain rfl := Option.some.inj h
      exact TrK.e hX sch_pcheck 19 [4] [] [] (.o 21 (DLe.bool c0) <| .g g0 <| .o 25 (DLe.bool c1) <| .e) [] .e (by kernel_rfl)
    · obtain ⟨g1, h⟩ := guardSome h
      rcases bifSome h with ⟨c2, h⟩ | ⟨c2, h⟩
      · obtain rfl := Option.some.inj h
        exact TrK.e hX sch_pcheck 19 [4] [] [] (.o 21 (DLe.bool c0) <| .g g0 <| .o 25 (DLe.bool c1) <| .g g1 <| .o 31 (DLe.bool c2) <| .e) [] .e (by kernel_rfl)
      · obtain ⟨g2, h⟩ := guardSome h
        exact TrK.g hX sch_pcheck 20 [2, 18, 19, 20] [0] [] (.o 21 (DLe.bool c0) <| .g g0 <| .o 25 (DLe.bool c1) <| .g g1 <| .o 31 (DLe.bool c2) <| .o 33 (wr64 g2) <| .e) (hself (.l1 (x20 + 1)) r h m0 hm0) (by kernel_rfl) (by kernel_rfl)
  · obtain rfl := Option.some.inj h
    exact TrK.e hX sch_pcheck 12 [4] [] [] (.o 21 (DLe.bool c0) <| .e) [] .e (by kernel_rfl)
theorem pcheck_all (B : Nat) (N : Yard Tryd.prog GG 0) (q : ProbD) (pos : List Int) : ∀ (n : Nat) (pt : pcheckPt) (r : Int), pcheck_m q pos n pt = some r → pcheck_at n B N q pos r pt
  | 0, _, _, h => by cases h
  | n + 1, .l1 x20, r, h => pcheck_p1 n B N (pcheck_m q pos n) q pos (pcheck_all B N q pos n) x20 r h
set_option maxRecDepth 100000 in
set_option maxHeartbeats 4000000 in
theorem pcheck_ok {n : Nat} (q : ProbD) (pos : List Int) {r : Int} (h : pcheck n q pos = some r) : ES Tryd.prog GG 39 [.agg 5 (L1 (probC q)), .ints pos] [] (.int .i64 r) [] true := by
  have hX : HX Fence.wide Tryd.prog := ⟨FOk.wide, by kernel_rfl⟩
  refine ES.of_trk Tryd.func39 (by kernel_rfl) (by kernel_rfl) noIter_nil (fun _ => rfl) fun B N => ?_
  have hself := pcheck_all B N q pos n
  unfold pcheck at h
  generalize pcheck_m q pos n = self at h hself
  unfold pcheck_l0 at h
  obtain ⟨y1, hy1, h⟩ := bindSome h
  rcases bifSome h with ⟨c0, h⟩ | ⟨c0, h⟩
  · obtain rfl := Option.some.inj h
    exact TrK.e hX sch_pcheck 15 [4] [] [] (.c (ES.frameB (valid_ok q hy1) [some (.cells (probC q))] (by kernel_rfl)) <| .o 11 (DLe.bool c0) <| .e) [] .e (by kernel_rfl)
  · rcases bifSome h with ⟨c1, h⟩ | ⟨c1, h⟩
    · obtain rfl := Option.some.inj h
      exact TrK.e hX sch_pcheck 20 [4] [] [] (.c (ES.frameB (valid_ok q hy1) [some (.cells (probC q))] (by kernel_rfl)) <| .o 11 (DLe.bool c0) <| .o 17 (DLe.bool c1) <| .e) [] .e (by kernel_rfl)
    · exact TrK.g hX sch_pcheck 23 [2, 18, 19, 20] [0] [] (.c (ES.frameB (valid_ok q hy1) [some (.cells (probC q))] (by kernel_rfl)) <| .o 11 (DLe.bool c0) <| .o 17 (DLe.bool c1) <| .e) (TrK.enter n (by kernel_rfl) (hself (.l1 0) r h n (Nat.le_refl _))) (by kernel_rfl) (by kernel_rfl)


def a_meetP_6 : Prop := SOk (regF Tryd.f16 6) [([0, 1, 2, 3, 4, 5, 6, 7, 8, 9], 10)] [] [11, 12]
theorem s_meetP_6 : a_meetP_6 := by unfold a_meetP_6 SOk; kernel_rfl
def sch_meetP : Sch := fun i => match i with
  | 6 => .ord [([0, 1, 2, 3, 4, 5, 6, 7, 8, 9], 10)] [] [11, 12]
  | _ => .no
inductive meetPPt where
  | l1
  | l2 (x4 : Nat) (x14 : Int) (o0 : List Int)
def meetP_l1 (n : Nat) (self : meetPPt → Option ((List Int) × Int)) (a b_ : List Int) : Option ((List Int) × Int) :=
  bif (decide (0 < ((a.length : Nat) : Int))) then
   if ((0 : Int) ≤ 0 ∧ 0 < ((a.length : Nat) : Int)) ∧ ((0 : Int) ≤ 0 ∧ 0 < ((b_.length : Nat) : Int)) ∧ ((0 = 0 ∧ 1 = ([(bits .and .i64 (a.getD 0 0) (b_.getD 0 0))] : List Int).length) ∧ 0 < ([(bits .and .i64 (a.getD 0 0) (b_.getD 0 0))] : List Int).length ∧ ([(bits .and .i64 (a.getD 0 0) (b_.getD 0 0))] : List Int).length ≤ LIM) then
    self (.l2 (([(bits .and .i64 (a.getD 0 0) (b_.getD 0 0))] : List Int).length) 1 ([(bits .and .i64 (a.getD 0 0) (b_.getD 0 0))] : List Int))
   else none
  else
   (normalP n ([] : List Int)).bind fun y1 =>
    some (y1, 0)
def meetP_l2 (n : Nat) (self : meetPPt → Option ((List Int) × Int)) (a b_ : List Int) (x4 : Nat) (x14 : Int) (o0 : List Int) : Option ((List Int) × Int) :=
  bif (decide (x14 < ((a.length : Nat) : Int))) then
   if ((0 : Int) ≤ x14 ∧ x14 < ((a.length : Nat) : Int)) ∧ ((0 : Int) ≤ x14 ∧ x14 < ((b_.length : Nat) : Int)) ∧ ((0 = 0 ∧ 1 = ([(bits .and .i64 (a.getD ((x14).toNat) 0) (b_.getD ((x14).toNat) 0))] : List Int).length) ∧ (0 = 0 ∧ x4 = o0.length) ∧ o0.length + ([(bits .and .i64 (a.getD ((x14).toNat) 0) (b_.getD ((x14).toNat) 0))] : List Int).length ≤ LIM) ∧ R64 (x14 + 1) then
    self (.l2 (o0.length + ([(bits .and .i64 (a.getD ((x14).toNat) 0) (b_.getD ((x14).toNat) 0))] : List Int).length) (x14 + 1) (o0 ++ ([(bits .and .i64 (a.getD ((x14).toNat) 0) (b_.getD ((x14).toNat) 0))] : List Int)))
   else none
  else
   if x4 = o0.length then
    (normalP n o0).bind fun y1 =>
     some (y1, 0)
   else none
def meetP_l0 (n : Nat) (self : meetPPt → Option ((List Int) × Int)) (a b_ : List Int) : Option ((List Int) × Int) :=
  bif (((a.length : Nat) : Int) != ((b_.length : Nat) : Int)) then
   some (([] : List Int), 250)
  else
   self (.l1)
def meetP_m (a b_ : List Int) : Nat → meetPPt → Option ((List Int) × Int)
  | 0, _ => none
  | n + 1, .l1 => meetP_l1 n (meetP_m a b_ n) a b_
  | n + 1, .l2 x4 x14 o0 => meetP_l2 n (meetP_m a b_ n) a b_ x4 x14 o0
def meetP (n : Nat) (a b_ : List Int) : Option ((List Int) × Int) := meetP_l0 n (meetP_m a b_ n) a b_
/-- What the points stand for. -/
def meetP_at (n : Nat) (B : Nat) (N : Yard Tryd.prog GG 0) (a b_ : List Int) (r : (List Int) × Int) : meetPPt → Prop
  | .l1 => ∀ m0 : Nat, n ≤ m0 → TrK Tryd.prog GG Fence.wide (some B) 0 N (Fin Tryd.prog Tryd.f16 0 (.tup 2 (L1 [.ints r.1, .int .i64 r.2])) []) (toN m0 (atNC (bodyC Tryd.f16) 0 [])) ⟨frm 32 [(0, .ints a), (1, .ints b_), (4, .nils), (13, .int .i64 ((a.length : Nat) : Int)), (14, .int .i64 0)], []⟩
  | .l2 x4 x14 o0 => ∀ m0 : Nat, n ≤ m0 → TrK Tryd.prog GG Fence.wide (some B) 0 N (Fin Tryd.prog Tryd.f16 0 (.tup 2 (L1 [.ints r.1, .int .i64 r.2])) []) (toN m0 (atNC (bodyC Tryd.f16) 0 [])) ⟨frm 32 [(0, .ints a), (1, .ints b_), (4, .msl 0 1 0 x4), (13, .int .i64 ((a.length : Nat) : Int)), (14, .int .i64 x14)], [some (.ints o0)]⟩
set_option maxRecDepth 100000 in
set_option maxHeartbeats 4000000 in
theorem meetP_p1 (n B : Nat) (N : Yard Tryd.prog GG 0) (self : meetPPt → Option ((List Int) × Int)) (a b_ : List Int) (hself : ∀ pt r, self pt = some r → meetP_at n B N a b_ r pt) (r : (List Int) × Int) (h : meetP_l1 n self a b_ = some r) : meetP_at (n + 1) B N a b_ r (.l1) := by
  have hX : HX Fence.wide Tryd.prog := ⟨FOk.wide, by kernel_rfl⟩
  intro m0 hm0
  refine TrK.round hm0 (by kernel_rfl) fun m0 hm0 => ?_
  unfold meetP_l1 at h
  rcases bifSome h with ⟨c0, h⟩ | ⟨c0, h⟩
  · obtain ⟨⟨g0, g1, g2⟩, h⟩ := guardSome h
    exact TrK.g hX sch_meetP 17 [0, 1, 4, 13, 14] [1] [] (.o 15 (DLe.bool c0) <| .g s_meetP_6 <| .g g0 <| .g g1 <| .g g2 <| .e) (hself (.l2 (([(bits .and .i64 (a.getD 0 0) (b_.getD 0 0))] : List Int).length) 1 ([(bits .and .i64 (a.getD 0 0) (b_.getD 0 0))] : List Int)) r h m0 hm0) (by kernel_rfl) (by kernel_rfl)
  · obtain ⟨y1, hy1, h⟩ := bindSome h
    cases h
    exact TrK.e hX sch_meetP 12 [4, 5] [] [] (.o 15 (DLe.bool c0) <| .c (ES.frameB (ES.argsLe (ds := [.nils]) (normalP_ok ([] : List Int) hy1) ⟨DLe.ints_nil, trivial⟩) [] (by kernel_rfl)) <| .e) [] .e (by kernel_rfl)
set_option maxRecDepth 100000 in
set_option maxHeartbeats 4000000 in
theorem meetP_p2 (n B : Nat) (N : Yard Tryd.prog GG 0) (self : meetPPt → Option ((List Int) × Int)) (a b_ : List Int) (hself : ∀ pt r, self pt = some r → meetP_at n B N a b_ r pt) (x4 : Nat) (x14 : Int) (o0 : List Int) (r : (List Int) × Int) (h : meetP_l2 n self a b_ x4 x14 o0 = some r) : meetP_at (n + 1) B N a b_ r (.l2 x4 x14 o0) := by
  have hX : HX Fence.wide Tryd.prog := ⟨FOk.wide, by kernel_rfl⟩
  intro m0 hm0
  refine TrK.round hm0 (by kernel_rfl) fun m0 hm0 => ?_
  unfold meetP_l2 at h
  rcases bifSome h with ⟨c0, h⟩ | ⟨c0, h⟩
  · obtain ⟨⟨g0, g1, g2, g3⟩, h⟩ := guardSome h
    exact TrK.g hX sch_meetP 17 [0, 1, 4, 13, 14] [2] [] (.o 15 (DLe.bool c0) <| .g s_meetP_6 <| .g g0 <| .g g1 <| .g g2 <| .o 29 (wr64 g3) <| .e) (hself (.l2 (o0.length + ([(bits .and .i64 (a.getD ((x14).toNat) 0) (b_.getD ((x14).toNat) 0))] : List Int).length) (x14 + 1) (o0 ++ ([(bits .and .i64 (a.getD ((x14).toNat) 0) (b_.getD ((x14).toNat) 0))] : List Int))) r h m0 hm0) (by kernel_rfl) (by kernel_rfl)
  · obtain ⟨g0, h⟩ := guardSome h
    refine TrK.gS hX (stopAt 8 sch_meetP) 11 [4] [0] [] (.o 15 (DLe.bool c0) <| .e) [0] (.g g0 <| .e) (atGC (bodyC Tryd.f16) 8 []) (frm 32 [(4, .ints o0)]) [none] (by kernel_rfl) (by kernel_rfl) ?_
    obtain ⟨y1, hy1, h⟩ := bindSome h
    cases h
    exact TrK.e hX sch_meetP 6 [4, 5] [] [] (.c (ES.frameB (normalP_ok o0 hy1) [none] (by kernel_rfl)) <| .e) [] .e (by kernel_rfl)
theorem meetP_all (B : Nat) (N : Yard Tryd.prog GG 0) (a b_ : List Int) : ∀ (n : Nat) (pt : meetPPt) (r : (List Int) × Int), meetP_m a b_ n pt = some r → meetP_at n B N a b_ r pt
  | 0, _, _, h => by cases h
  | n + 1, .l1, r, h => meetP_p1 n B N (meetP_m a b_ n) a b_ (meetP_all B N a b_ n) r h
  | n + 1, .l2 x4 x14 o0, r, h => meetP_p2 n B N (meetP_m a b_ n) a b_ (meetP_all B N a b_ n) x4 x14 o0 r h
set_option maxRecDepth 100000 in
set_option maxHeartbeats 4000000 in
theorem meetP_ok {n : Nat} (a b_ : List Int) {r : (List Int) × Int} (h : meetP n a b_ = some r) : ES Tryd.prog GG 16 [.ints a, .ints b_] [] (.tup 2 (L1 [.ints r.1, .int .i64 r.2])) [] true := by
  have hX : HX Fence.wide Tryd.prog := ⟨FOk.wide, by kernel_rfl⟩
  refine ES.of_trk Tryd.func16 (by kernel_rfl) (by kernel_rfl) noIter_nil (fun _ => rfl) fun B N => ?_
  have hself := meetP_all B N a b_ n
  unfold meetP at h
  generalize meetP_m a b_ n = self at h hself
  unfold meetP_l0 at h
  rcases bifSome h with ⟨c0, h⟩ | ⟨c0, h⟩
  · cases h
    exact TrK.el hX sch_meetP 13 [4, 5] [] [] (.o 11 (DLe.bool c0) <| .e) [] .e [.nils, .int .i64 250] (DLe.tupL (l := [.nils, .int .i64 250]) (l' := [.ints ([] : List Int), .int .i64 250]) rfl ⟨DLe.ints_nil, (DLe.refl _), trivial⟩) (by kernel_rfl)
  · exact TrK.g hX sch_meetP 16 [0, 1, 4, 13, 14] [] [] (.o 11 (DLe.bool c0) <| .e) (TrK.enter n (by kernel_rfl) (hself (.l1) r h n (Nat.le_refl _))) (by kernel_rfl) (by kernel_rfl)


def sch_withoutP : Sch := fun i => match i with
  | _ => .no
def withoutP_l0 (n : Nat) (s_ symbol : Int) : Option Int :=
  if (0 : Int) ≤ symbol ∧ symbol ≤ ((IntKind.u64.bits : Nat) : Int) then
   some (bits .andNot .u64 s_ (IntKind.u64.wrap (1 * 2 ^ (symbol).toNat)))
  else none
def withoutP (n : Nat) (s_ symbol : Int) : Option Int := withoutP_l0 n s_ symbol
set_option maxRecDepth 100000 in
set_option maxHeartbeats 4000000 in
theorem withoutP_ok {n : Nat} (s_ symbol : Int) {r : Int} (h : withoutP n s_ symbol = some r) : ES Tryd.prog GG 29 [.int .u64 s_, .int .i64 symbol] [] (.int .u64 r) [] true := by
  have hX : HX Fence.wide Tryd.prog := ⟨FOk.wide, by kernel_rfl⟩
  refine ES.of_trk Tryd.func29 (by kernel_rfl) (by kernel_rfl) noIter_nil (fun _ => rfl) fun B N => ?_
  unfold withoutP at h
  unfold withoutP_l0 at h
  obtain ⟨g0, h⟩ := guardSome h
  cases h
  exact TrK.e hX sch_withoutP 9 [4] [] [] (.g g0 <| .e) [] .e (by kernel_rfl)


def sch_cloneI : Sch := fun i => match i with
  | _ => .no
def cloneI_l0 (n : Nat) (s_ : List Int) : Option ((List Int)) :=
  if 0 < s_.length ∧ ((True) ∧ (0 = 0 ∧ 0 = ([] : List Int).length) ∧ ([] : List Int).length + s_.length ≤ LIM) then
   if ([] : List Int).length + s_.length = (([] : List Int) ++ s_).length then
    some (([] : List Int) ++ s_)
   else none
  else none
def cloneI (n : Nat) (s_ : List Int) : Option ((List Int)) := cloneI_l0 n s_
set_option maxRecDepth 100000 in
set_option maxHeartbeats 4000000 in
theorem cloneI_ok {n : Nat} (s_ : List Int) {r : (List Int)} (h : cloneI n s_ = some r) : ES Tryd.prog GG 49 [.ints s_] [] (.msl 0 1 0 r.length) [some (.ints r)] true := by
  have hX : HX Fence.wide Tryd.prog := ⟨FOk.wide, by kernel_rfl⟩
  refine ES.of_trk Tryd.func49 (by kernel_rfl) (by kernel_rfl) (noIterB (by kernel_rfl)) (fun _ => rfl) fun B N => ?_
  unfold cloneI at h
  unfold cloneI_l0 at h
  obtain ⟨⟨g0, g1⟩, h⟩ := guardSome h
  obtain ⟨g2, h⟩ := guardSome h
  cases h
  exact TrK.el hX sch_cloneI 14 [2] [1] [] (.g g0 <| .g g1 <| .e) [] .e [.msl 0 1 0 (([] : List Int).length + s_.length)] (DLe.mslN g2) (by kernel_rfl)


def sch_cloneB : Sch := fun i => match i with
  | _ => .no
def cloneB_l0 (n : Nat) (s_ : List Bool) : Option ((List Bool)) :=
  if 0 < s_.length ∧ ((True) ∧ (0 = 0 ∧ 0 = ([] : List Bool).length) ∧ ([] : List Bool).length + s_.length ≤ LIM) then
   if ([] : List Bool).length + s_.length = (([] : List Bool) ++ s_).length then
    some (([] : List Bool) ++ s_)
   else none
  else none
def cloneB (n : Nat) (s_ : List Bool) : Option ((List Bool)) := cloneB_l0 n s_
set_option maxRecDepth 100000 in
set_option maxHeartbeats 4000000 in
theorem cloneB_ok {n : Nat} (s_ : List Bool) {r : (List Bool)} (h : cloneB n s_ = some r) : ES Tryd.prog GG 75 [.bools s_] [] (.msl 0 1 0 r.length) [some (.bools r)] true := by
  have hX : HX Fence.wide Tryd.prog := ⟨FOk.wide, by kernel_rfl⟩
  refine ES.of_trk Tryd.func75 (by kernel_rfl) (by kernel_rfl) (noIterB (by kernel_rfl)) (fun _ => rfl) fun B N => ?_
  unfold cloneB at h
  unfold cloneB_l0 at h
  obtain ⟨⟨g0, g1⟩, h⟩ := guardSome h
  obtain ⟨g2, h⟩ := guardSome h
  cases h
  exact TrK.el hX sch_cloneB 14 [2] [1] [] (.g g0 <| .g g1 <| .e) [] .e [.msl 0 1 0 (([] : List Bool).length + s_.length)] (DLe.mslN g2) (by kernel_rfl)


def sch_checkP : Sch := fun i => match i with
  | _ => .no
def checkP_l0 (n : Nat) (q : ProbD) (i : Int) (pos : List Int) : Option Int :=
  (levelP n q i).bind fun y1 =>
   bif (y1.2 != 0) then
    some y1.2
   else
    (pcheck n q pos).bind fun y2 =>
     some y2
def checkP (n : Nat) (q : ProbD) (i : Int) (pos : List Int) : Option Int := checkP_l0 n q i pos
set_option maxRecDepth 100000 in
set_option maxHeartbeats 4000000 in
theorem checkP_ok {n : Nat} (q : ProbD) (i : Int) (pos : List Int) {r : Int} (h : checkP n q i pos = some r) : ES Tryd.prog GG 24 [.agg 5 (L1 (probC q)), .int .i64 i, .ints pos] [] (.int .i64 r) [] true := by
  have hX : HX Fence.wide Tryd.prog := ⟨FOk.wide, by kernel_rfl⟩
  refine ES.of_trk Tryd.func24 (by kernel_rfl) (by kernel_rfl) noIter_nil (fun _ => rfl) fun B N => ?_
  unfold checkP at h
  unfold checkP_l0 at h
  obtain ⟨y1, hy1, h⟩ := bindSome h
  rcases bifSome h with ⟨c0, h⟩ | ⟨c0, h⟩
  · cases h
    exact TrK.e hX sch_checkP 15 [6] [] [] (.c (ES.frameB (levelP_ok q i hy1) [some (.cells (probC q))] (by kernel_rfl)) <| .o 16 (DLe.bool c0) <| .e) [] .e (by kernel_rfl)
  · obtain ⟨y2, hy2, h⟩ := bindSome h
    obtain rfl := Option.some.inj h
    exact TrK.e hX sch_checkP 16 [6] [] [] (.c (ES.frameB (levelP_ok q i hy1) [some (.cells (probC q))] (by kernel_rfl)) <| .o 16 (DLe.bool c0) <| .c (ES.frameB (pcheck_ok q pos hy2) [some (.cells (probC q))] (by kernel_rfl)) <| .e) [] .e (by kernel_rfl)


def a_samePairs_6 : Prop := SOk (regF Tryd.f19 6) [] [0, 1, 2, 3, 4, 5, 6, 7, 8] []
theorem s_samePairs_6 : a_samePairs_6 := by unfold a_samePairs_6 SOk; kernel_rfl
def sch_samePairs : Sch := fun i => match i with
  | 6 => .ord [] [0, 1, 2, 3, 4, 5, 6, 7, 8] []
  | _ => .no
inductive samePairsPt where
  | l1 (x5 : Int)
def samePairs_l1 (n : Nat) (self : samePairsPt → Option Bool) (a b_ : List (Int × Int)) (x5 : Int) : Option Bool :=
  bif (decide (x5 < ((a.length : Nat) : Int))) then
   if ((0 : Int) ≤ x5 ∧ x5 < ((a.length : Nat) : Int)) ∧ ((0 : Int) ≤ x5 ∧ x5 < ((b_.length : Nat) : Int)) then
    bif (!((((a.getD ((x5).toNat) default).1) == ((b_.getD ((x5).toNat) default).1)) && ((((a.getD ((x5).toNat) default).2) == ((b_.getD ((x5).toNat) default).2)) && true))) then
     some false
    else
     if R64 (x5 + 1) then
      self (.l1 (x5 + 1))
     else none
   else none
  else
   some true
def samePairs_l0 (n : Nat) (self : samePairsPt → Option Bool) (a b_ : List (Int × Int)) : Option Bool :=
  bif (((a.length : Nat) : Int) != ((b_.length : Nat) : Int)) then
   some false
  else
   self (.l1 0)
def samePairs_m (a b_ : List (Int × Int)) : Nat → samePairsPt → Option Bool
  | 0, _ => none
  | n + 1, .l1 x5 => samePairs_l1 n (samePairs_m a b_ n) a b_ x5
def samePairs (n : Nat) (a b_ : List (Int × Int)) : Option Bool := samePairs_l0 n (samePairs_m a b_ n) a b_
/-- What the points stand for. -/
def samePairs_at (n : Nat) (B : Nat) (N : Yard Tryd.prog GG 0) (a b_ : List (Int × Int)) (r : Bool) : samePairsPt → Prop
  | .l1 x5 => ∀ m0 : Nat, n ≤ m0 → TrK Tryd.prog GG Fence.wide (some B) 0 N (Fin Tryd.prog Tryd.f19 0 (.bool r) []) (toN m0 (atNC (bodyC Tryd.f19) 0 [])) ⟨frm 26 [(0, .sl 2 a.length (rowE iiC a)), (1, .sl 2 b_.length (rowE iiC b_)), (5, .int .i64 x5)], []⟩
set_option maxRecDepth 100000 in
set_option maxHeartbeats 4000000 in
theorem samePairs_p1 (n B : Nat) (N : Yard Tryd.prog GG 0) (self : samePairsPt → Option Bool) (a b_ : List (Int × Int)) (hself : ∀ pt r, self pt = some r → samePairs_at n B N a b_ r pt) (x5 : Int) (r : Bool) (h : samePairs_l1 n self a b_ x5 = some r) : samePairs_at (n + 1) B N a b_ r (.l1 x5) := by
  have hX : HX Fence.wide Tryd.prog := ⟨FOk.wide, by kernel_rfl⟩
  intro m0 hm0
  refine TrK.round hm0 (by kernel_rfl) fun m0 hm0 => ?_
  unfold samePairs_l1 at h
  rcases bifSome h with ⟨c0, h⟩ | ⟨c0, h⟩
  · obtain ⟨⟨g0, g1⟩, h⟩ := guardSome h
    rcases bifSome h with ⟨c1, h⟩ | ⟨c1, h⟩
    · obtain rfl := Option.some.inj h
      exact TrK.e hX sch_samePairs 17 [4] [] [] (.o 14 (DLe.bool c0) <| .g s_samePairs_6 <| .g g0 <| .g g1 <| .o 25 (DLe.bool c1) <| .e) [] .e (by kernel_rfl)
    · obtain ⟨g2, h⟩ := guardSome h
      exact TrK.g hX sch_samePairs 18 [0, 1, 5] [] [] (.o 14 (DLe.bool c0) <| .g s_samePairs_6 <| .g g0 <| .g g1 <| .o 25 (DLe.bool c1) <| .o 16 (wr64 g2) <| .e) (hself (.l1 (x5 + 1)) r h m0 hm0) (by kernel_rfl) (by kernel_rfl)
  · obtain rfl := Option.some.inj h
    exact TrK.e hX sch_samePairs 12 [4] [] [] (.o 14 (DLe.bool c0) <| .e) [] .e (by kernel_rfl)
theorem samePairs_all (B : Nat) (N : Yard Tryd.prog GG 0) (a b_ : List (Int × Int)) : ∀ (n : Nat) (pt : samePairsPt) (r : Bool), samePairs_m a b_ n pt = some r → samePairs_at n B N a b_ r pt
  | 0, _, _, h => by cases h
  | n + 1, .l1 x5, r, h => samePairs_p1 n B N (samePairs_m a b_ n) a b_ (samePairs_all B N a b_ n) x5 r h
set_option maxRecDepth 100000 in
set_option maxHeartbeats 4000000 in
theorem samePairs_ok {n : Nat} (a b_ : List (Int × Int)) {r : Bool} (h : samePairs n a b_ = some r) : ES Tryd.prog GG 19 [.sl 2 a.length (rowE iiC a), .sl 2 b_.length (rowE iiC b_)] [] (.bool r) [] true := by
  have hX : HX Fence.wide Tryd.prog := ⟨FOk.wide, by kernel_rfl⟩
  refine ES.of_trk Tryd.func19 (by kernel_rfl) (by kernel_rfl) noIter_nil (fun _ => rfl) fun B N => ?_
  have hself := samePairs_all B N a b_ n
  unfold samePairs at h
  generalize samePairs_m a b_ n = self at h hself
  unfold samePairs_l0 at h
  rcases bifSome h with ⟨c0, h⟩ | ⟨c0, h⟩
  · obtain rfl := Option.some.inj h
    exact TrK.e hX sch_samePairs 13 [4] [] [] (.o 10 (DLe.bool c0) <| .e) [] .e (by kernel_rfl)
  · exact TrK.g hX sch_samePairs 16 [0, 1, 5] [] [] (.o 10 (DLe.bool c0) <| .e) (TrK.enter n (by kernel_rfl) (hself (.l1 0) r h n (Nat.le_refl _))) (by kernel_rfl) (by kernel_rfl)


def sch_isNaN : Sch := fun i => match i with
  | _ => .no
def isNaN_l0 (n : Nat) (x_ : Int) : Option Bool :=
  some (x_ != x_)
def isNaN (n : Nat) (x_ : Int) : Option Bool := isNaN_l0 n x_
set_option maxRecDepth 100000 in
set_option maxHeartbeats 4000000 in
theorem isNaN_ok {n : Nat} (x_ : Int) {r : Bool} (h : isNaN n x_ = some r) : ES Tryd.prog GG 104 [.int .i64 x_] [] (.bool r) [] true := by
  have hX : HX Fence.wide Tryd.prog := ⟨FOk.wide, by kernel_rfl⟩
  refine ES.of_trk Tryd.func104 (by kernel_rfl) (by kernel_rfl) noIter_nil (fun _ => rfl) fun B N => ?_
  unfold isNaN at h
  unfold isNaN_l0 at h
  cases h
  exact TrK.e hX sch_isNaN 9 [2] [] [] .e [] .e (by kernel_rfl)


def sch_lessI : Sch := fun i => match i with
  | _ => .no
def lessI_l0 (n : Nat) (x_ y_ : Int) : Option Bool :=
  (isNaN n x_).bind fun y1 =>
   bif y1 then
    (isNaN n y_).bind fun y2 =>
     bif (!y2) then
      some true
     else
      some (decide (x_ < y_))
   else
    some (decide (x_ < y_))
def lessI (n : Nat) (x_ y_ : Int) : Option Bool := lessI_l0 n x_ y_
set_option maxRecDepth 100000 in
set_option maxHeartbeats 4000000 in
theorem lessI_ok {n : Nat} (x_ y_ : Int) {r : Bool} (h : lessI n x_ y_ = some r) : ES Tryd.prog GG 94 [.int .i64 x_, .int .i64 y_] [] (.bool r) [] true := by
  have hX : HX Fence.wide Tryd.prog := ⟨FOk.wide, by kernel_rfl⟩
  refine ES.of_trk Tryd.func94 (by kernel_rfl) (by kernel_rfl) noIter_nil (fun _ => rfl) fun B N => ?_
  unfold lessI at h
  unfold lessI_l0 at h
  obtain ⟨y1, hy1, h⟩ := bindSome h
  rcases bifSome h with ⟨c0, h⟩ | ⟨c0, h⟩
  · obtain ⟨y2, hy2, h⟩ := bindSome h
    rcases bifSome h with ⟨c1, h⟩ | ⟨c1, h⟩
    · obtain rfl := Option.some.inj h
      exact TrK.e hX sch_lessI 9 [4] [] [] (.c (ES.frameB (isNaN_ok x_ hy1) [] (by kernel_rfl)) <| .o 6 (DLe.bool c0) <| .c (ES.frameB (isNaN_ok y_ hy2) [] (by kernel_rfl)) <| .o 10 (DLe.bool c1) <| .e) [] .e (by kernel_rfl)
    · cases h
      exact TrK.e hX sch_lessI 9 [4] [] [] (.c (ES.frameB (isNaN_ok x_ hy1) [] (by kernel_rfl)) <| .o 6 (DLe.bool c0) <| .c (ES.frameB (isNaN_ok y_ hy2) [] (by kernel_rfl)) <| .o 10 (DLe.bool c1) <| .e) [] .e (by kernel_rfl)
  · cases h
    exact TrK.e hX sch_lessI 9 [4] [] [] (.c (ES.frameB (isNaN_ok x_ hy1) [] (by kernel_rfl)) <| .o 6 (DLe.bool c0) <| .e) [] .e (by kernel_rfl)


def sch_gvalid : Sch := fun i => match i with
  | _ => .no
inductive gvalidPt where
  | l1 (x15 : Int)
def gvalid_l1 (n : Nat) (self : gvalidPt → Option Int) (g_ : List (List Int)) (sets : List (List Bool)) (x15 : Int) : Option Int :=
  bif (decide (x15 < ((sets.length : Nat) : Int))) then
   if (0 : Int) ≤ x15 ∧ x15 < ((sets.length : Nat) : Int) then
    bif ((((sets.getD ((x15).toNat) []).length : Nat) : Int) != ((g_.length : Nat) : Int)) then
     some 1
    else
     if R64 (x15 + 1) then
      self (.l1 (x15 + 1))
     else none
   else none
  else
   some 0
def gvalid_l0 (n : Nat) (self : gvalidPt → Option Int) (g_ : List (List Int)) (sets : List (List Bool)) : Option Int :=
  (gcheck n g_).bind fun y1 =>
   bif (y1 != 0) then
    some y1
   else
    self (.l1 0)
def gvalid_m (g_ : List (List Int)) (sets : List (List Bool)) : Nat → gvalidPt → Option Int
  | 0, _ => none
  | n + 1, .l1 x15 => gvalid_l1 n (gvalid_m g_ sets n) g_ sets x15
def gvalid (n : Nat) (g_ : List (List Int)) (sets : List (List Bool)) : Option Int := gvalid_l0 n (gvalid_m g_ sets n) g_ sets
/-- What the points stand for. -/
def gvalid_at (n : Nat) (B : Nat) (N : Yard Tryd.prog GG 0) (g_ : List (List Int)) (sets : List (List Bool)) (r : Int) : gvalidPt → Prop
  | .l1 x15 => ∀ m0 : Nat, n ≤ m0 → TrK Tryd.prog GG Fence.wide (some B) 0 N (Fin Tryd.prog Tryd.f77 0 (.int .i64 r) []) (toN m0 (atNC (bodyC Tryd.f77) 0 [])) ⟨frm 25 [(0, .sl 1 g_.length (rowE intsC g_)), (13, .sl 1 sets.length (rowE boolsC sets)), (14, .int .i64 ((sets.length : Nat) : Int)), (15, .int .i64 x15)], []⟩
set_option maxRecDepth 100000 in
set_option maxHeartbeats 4000000 in
theorem gvalid_p1 (n B : Nat) (N : Yard Tryd.prog GG 0) (self : gvalidPt → Option Int) (g_ : List (List Int)) (sets : List (List Bool)) (hself : ∀ pt r, self pt = some r → gvalid_at n B N g_ sets r pt) (x15 : Int) (r : Int) (h : gvalid_l1 n self g_ sets x15 = some r) : gvalid_at (n + 1) B N g_ sets r (.l1 x15) := by
  have hX : HX Fence.wide Tryd.prog := ⟨FOk.wide, by kernel_rfl⟩
  intro m0 hm0
  refine TrK.round hm0 (by kernel_rfl) fun m0 hm0 => ?_
  unfold gvalid_l1 at h
  rcases bifSome h with ⟨c0, h⟩ | ⟨c0, h⟩
  · obtain ⟨g0, h⟩ := guardSome h
    rcases bifSome h with ⟨c1, h⟩ | ⟨c1, h⟩
    · obtain rfl := Option.some.inj h
      exact TrK.e hX sch_gvalid 19 [4] [] [] (.o 16 (DLe.bool c0) <| .g g0 <| .o 23 (DLe.bool c1) <| .e) [] .e (by kernel_rfl)
    · obtain ⟨g1, h⟩ := guardSome h
      exact TrK.g hX sch_gvalid 20 [0, 13, 14, 15] [] [] (.o 16 (DLe.bool c0) <| .g g0 <| .o 23 (DLe.bool c1) <| .o 24 (wr64 g1) <| .e) (hself (.l1 (x15 + 1)) r h m0 hm0) (by kernel_rfl) (by kernel_rfl)
  · obtain rfl := Option.some.inj h
    exact TrK.e hX sch_gvalid 12 [4] [] [] (.o 16 (DLe.bool c0) <| .e) [] .e (by kernel_rfl)
theorem gvalid_all (B : Nat) (N : Yard Tryd.prog GG 0) (g_ : List (List Int)) (sets : List (List Bool)) : ∀ (n : Nat) (pt : gvalidPt) (r : Int), gvalid_m g_ sets n pt = some r → gvalid_at n B N g_ sets r pt
  | 0, _, _, h => by cases h
  | n + 1, .l1 x15, r, h => gvalid_p1 n B N (gvalid_m g_ sets n) g_ sets (gvalid_all B N g_ sets n) x15 r h
set_option maxRecDepth 100000 in
set_option maxHeartbeats 4000000 in
theorem gvalid_ok {n : Nat} (g_ : List (List Int)) (sets : List (List Bool)) {r : Int} (h : gvalid n g_ sets = some r) : ES Tryd.prog GG 77 [.sl 1 g_.length (rowE intsC g_), .sl 1 sets.length (rowE boolsC sets)] [] (.int .i64 r) [] true := by
  have hX : HX Fence.wide Tryd.prog := ⟨FOk.wide, by kernel_rfl⟩
  refine ES.of_trk Tryd.func77 (by kernel_rfl) (by kernel_rfl) noIter_nil (fun _ => rfl) fun B N => ?_
  have hself := gvalid_all B N g_ sets n
  unfold gvalid at h
  generalize gvalid_m g_ sets n = self at h hself
  unfold gvalid_l0 at h
  obtain ⟨y1, hy1, h⟩ := bindSome h
  rcases bifSome h with ⟨c0, h⟩ | ⟨c0, h⟩
  · obtain rfl := Option.some.inj h
    exact TrK.e hX sch_gvalid 15 [4] [] [] (.c (ES.frameB (gcheck_ok g_ hy1) [] (by kernel_rfl)) <| .o 11 (DLe.bool c0) <| .e) [] .e (by kernel_rfl)
  · exact TrK.g hX sch_gvalid 18 [0, 13, 14, 15] [] [] (.c (ES.frameB (gcheck_ok g_ hy1) [] (by kernel_rfl)) <| .o 11 (DLe.bool c0) <| .e) (TrK.enter n (by kernel_rfl) (hself (.l1 0) r h n (Nat.le_refl _))) (by kernel_rfl) (by kernel_rfl)


end Go.Proofs.YtekkngkphejfcaaDoor
