/- Functions read off the code: graphs. -/
import Derived.Test.YtekkngkphejfcaaDoorHg
namespace Go.Proofs.YtekkngkphejfcaaDoor
open Go.RowKit

def sch_reachM : Sch := fun i => match i with
  | _ => .no
def reachM_l0 (n : Nat) (g_ : List (List Int)) (in_ : List Bool) (start : Int) : Option Unit :=
  some ()
def reachM (n : Nat) (g_ : List (List Int)) (in_ : List Bool) (start : Int) : Option Unit := reachM_l0 n g_ in_ start
set_option maxRecDepth 100000 in
set_option maxHeartbeats 4000000 in
theorem reachM_ok {n : Nat} (g_ : List (List Int)) (in_ : List Bool) (start : Int) {r : Unit} (h : reachM n g_ in_ start = some r) : ES Tryd.prog GG 80 [.sl 1 g_.length (rowE intsC g_), .bools in_, .int .i64 start] [] (.fn 82 3 (L1 [.ref 0 0, .ref 1 0, .ref 2 0])) [some (.cells [.sl 1 g_.length (rowE intsC g_)]), some (.cells [.int .i64 start]), some (.cells [.bools in_])] true := by
  have hX : HX Fence.wide Tryd.prog := ⟨FOk.wide, by kernel_rfl⟩
  refine ES.of_trk Tryd.func80 (by kernel_rfl) (by kernel_rfl) (noIterB (by kernel_rfl)) (fun _ => rfl) fun B N => ?_
  unfold reachM at h
  unfold reachM_l0 at h
  cases h
  exact TrK.e hX sch_reachM 9 [6] [0, 2, 1] [] .e [] .e (by kernel_rfl)


def a_reach_6 : Prop := SOk (regF Tryd.f82 6) [] [0, 1, 2, 3, 4, 5, 6, 7] []
theorem s_reach_6 : a_reach_6 := by unfold a_reach_6 SOk; kernel_rfl
def sch_reach : Sch := fun i => match i with
  | 6 => .ord [] [0, 1, 2, 3, 4, 5, 6, 7] []
  | _ => .no
def hp_reach_0 (g : List (List Int)) (start : Int) (inn o3 : List Bool) (o4 : List Int) : DH := [some (.cells [.sl 1 g.length (rowE intsC g)]), some (.cells [.int .i64 start]), some (.cells [.bools inn]), some (.bools o3), some (.ints o4)]
inductive reachPt where
  | l1 (x6 : Nat) (o3 : List Bool) (o4 : List Int)
  | l2 (x6 : Nat) (x33 : List Int) (x34 x35 : Int) (o3 : List Bool) (o4 : List Int)
  | l3 (o3 : List Bool)
def reach_l1 (n : Nat) (self : reachPt → Option (List Int)) (g : List (List Int)) (start : Int) (inn : List Bool) (x6 : Nat) (o3 : List Bool) (o4 : List Int) : Option (List Int) :=
  bif (decide (((x6 : Nat) : Int) > 0)) then
   if ((0 : Int) ≤ 0 ∧ 0 < ((x6 : Nat) : Int)) ∧ 0 + 0 < o4.length then
    Option.map (fun l => (o4.getD (0 + 0) 0) :: l) (
     if ((0 : Int) ≤ 0 ∧ 0 < ((x6 : Nat) : Int)) ∧ 0 + 0 < o4.length ∧ ((0 : Int) ≤ (o4.getD (0 + 0) 0) ∧ (o4.getD (0 + 0) 0) < ((g.length : Nat) : Int)) then
      self (.l2 x6 (g.getD ((o4.getD (0 + 0) 0).toNat) []) (((g.getD ((o4.getD (0 + 0) 0).toNat) []).length : Nat) : Int) 0 o3 o4)
     else none)
   else none
  else
   some []
def reach_l2 (n : Nat) (self : reachPt → Option (List Int)) (g : List (List Int)) (start : Int) (inn : List Bool) (x6 : Nat) (x33 : List Int) (x34 x35 : Int) (o3 : List Bool) (o4 : List Int) : Option (List Int) :=
  bif (decide (x35 < x34)) then
   if ((0 : Int) ≤ x35 ∧ x35 < ((x33.length : Nat) : Int)) ∧ ((0 : Int) ≤ (x33.getD ((x35).toNat) 0) ∧ (x33.getD ((x35).toNat) 0) < ((inn.length : Nat) : Int)) then
    bif (inn.getD ((x33.getD ((x35).toNat) 0).toNat) false) then
     if ((0 : Int) ≤ (x33.getD ((x35).toNat) 0) ∧ (x33.getD ((x35).toNat) 0) < ((g.length : Nat) : Int)) ∧ 0 + ((x33.getD ((x35).toNat) 0).toNat) < o3.length then
      bif (!(o3.getD (0 + ((x33.getD ((x35).toNat) 0).toNat)) false)) then
       if ((0 = 0 ∧ 1 = ([x33.getD ((x35).toNat) 0] : List Int).length) ∧ (0 = 0 ∧ x6 = o4.length) ∧ o4.length + ([x33.getD ((x35).toNat) 0] : List Int).length ≤ LIM) ∧ R64 (x35 + 1) then
        self (.l2 (o4.length + ([x33.getD ((x35).toNat) 0] : List Int).length) x33 x34 (x35 + 1) (o3.set (0 + ((x33.getD ((x35).toNat) 0).toNat)) true) (o4 ++ ([x33.getD ((x35).toNat) 0] : List Int)))
       else none
      else
       if R64 (x35 + 1) then
        self (.l2 x6 x33 x34 (x35 + 1) o3 o4)
       else none
     else none
    else
     if R64 (x35 + 1) then
      self (.l2 x6 x33 x34 (x35 + 1) o3 o4)
     else none
   else none
  else
   bif ((x6 - 1) == 0) then
    if (0 : Int) ≤ 1 ∧ (1 : Int) ≤ ((x6 : Nat) : Int) ∧ ((x6 : Nat) : Int) ≤ ((x6 : Nat) : Int) then
     self (.l3 o3)
    else none
   else
    if (0 : Int) ≤ 1 ∧ (1 : Int) ≤ ((x6 : Nat) : Int) ∧ ((x6 : Nat) : Int) ≤ ((x6 : Nat) : Int) then
     if 1 ≤ o4.length then
      self (.l1 (x6 - 1) o3 (o4.drop 1))
     else none
    else none
def reach_l3 (n : Nat) (self : reachPt → Option (List Int)) (g : List (List Int)) (start : Int) (inn : List Bool) (o3 : List Bool) : Option (List Int) :=
  some []
def reach_l0 (n : Nat) (self : reachPt → Option (List Int)) (g : List (List Int)) (start : Int) (inn : List Bool) : Option (List Int) :=
  if ((((g.length : Nat) : Int) : Int) = ((g.length : Nat) : Int) ∧ (0 : Int) ≤ ((g.length : Nat) : Int) ∧ (((g.length : Nat) : Int) : Int) ≤ 1000000000000) ∧ ((0 : Int) ≤ start ∧ start < ((g.length : Nat) : Int)) ∧ 0 + ((start).toNat) < (List.replicate g.length false).length then
   self (.l1 1 ((List.replicate g.length false).set (0 + ((start).toNat)) true) ([start] : List Int))
  else none
def reach_m (g : List (List Int)) (start : Int) (inn : List Bool) : Nat → reachPt → Option (List Int)
  | 0, _ => none
  | n + 1, .l1 x6 o3 o4 => reach_l1 n (reach_m g start inn n) g start inn x6 o3 o4
  | n + 1, .l2 x6 x33 x34 x35 o3 o4 => reach_l2 n (reach_m g start inn n) g start inn x6 x33 x34 x35 o3 o4
  | n + 1, .l3 o3 => reach_l3 n (reach_m g start inn n) g start inn o3
def reach (n : Nat) (g : List (List Int)) (start : Int) (inn : List Bool) : Option (List Int) := reach_l0 n (reach_m g start inn n) g start inn
/-- What the points stand for. -/
def reach_at (C : ItC Tryd.prog GG) (n : Nat) (g : List (List Int)) (start : Int) (inn : List Bool) (r : List Int) : reachPt → Prop
  | .l1 x6 o3 o4 => ∀ m0 : Nat, n ≤ m0 → ∀ i : Nat, i ≤ C.encs.length → C.encs.drop i = r.map encI → TrG Tryd.prog GG Fence.wide none 3 (C.Y 3 i) (C.Q 3) (toN m0 (atNC (bodyC Tryd.f82) 0 [])) ⟨frm 58 [(0, .yl C.l), (1, .ref 0 0), (3, .ref 2 0), (5, .msl 3 1 0 g.length), (6, .msl 4 1 0 x6)], [some (.cells [.sl 1 g.length (rowE intsC g)]), some (.cells [.int .i64 start]), some (.cells [.bools inn]), some (.bools o3), some (.ints o4)]⟩
  | .l2 x6 x33 x34 x35 o3 o4 => ∀ m0 m1 : Nat, n ≤ m0 → n ≤ m1 → ∀ i : Nat, i ≤ C.encs.length → C.encs.drop i = r.map encI → TrG Tryd.prog GG Fence.wide none 3 (C.Y 3 i) (C.Q 3) (toN m1 (atNC (bodyC Tryd.f82) 2 [m0])) ⟨frm 58 [(0, .yl C.l), (1, .ref 0 0), (3, .ref 2 0), (5, .msl 3 1 0 g.length), (6, .msl 4 1 0 x6), (33, .ints x33), (34, .int .i64 x34), (35, .int .i64 x35)], [some (.cells [.sl 1 g.length (rowE intsC g)]), some (.cells [.int .i64 start]), some (.cells [.bools inn]), some (.bools o3), some (.ints o4)]⟩
  | .l3 o3 => ∀ m0 : Nat, n ≤ m0 → ∀ i : Nat, i ≤ C.encs.length → C.encs.drop i = r.map encI → TrG Tryd.prog GG Fence.wide none 3 (C.Y 3 i) (C.Q 3) (toN m0 (atNC (bodyC Tryd.f82) 0 [])) ⟨frm 58 [(0, .yl C.l), (1, .ref 0 0), (3, .ref 2 0), (5, .msl 3 1 0 g.length), (6, .ints ([] : List Int))], [some (.cells [.sl 1 g.length (rowE intsC g)]), some (.cells [.int .i64 start]), some (.cells [.bools inn]), some (.bools o3)]⟩
set_option maxRecDepth 100000 in
set_option maxHeartbeats 4000000 in
theorem reach_p1 (C : ItC Tryd.prog GG) (n : Nat) (self : reachPt → Option (List Int)) (g : List (List Int)) (start : Int) (inn : List Bool) (hself : ∀ pt r, self pt = some r → reach_at C n g start inn r pt) (x6 : Nat) (o3 : List Bool) (o4 : List Int) (r : List Int) (h : reach_l1 n self g start inn x6 o3 o4 = some r) : reach_at C (n + 1) g start inn r (.l1 x6 o3 o4) := by
  have hX : HX Fence.wide Tryd.prog := ⟨FOk.wide, by kernel_rfl⟩
  intro m0 hm0
  intro i hi hd
  refine TrK.round hm0 (by kernel_rfl) fun m0 hm0 => ?_
  unfold reach_l1 at h
  rcases bifSome h with ⟨c0, h⟩ | ⟨c0, h⟩
  · refine TrK.gS hX (stopAt 5 sch_reach) 14 [0, 1, 3, 5, 6] [0, 1, 2, 3, 4] [] (.o 19 (DLe.bool c0) <| .e) [] .e (atGC (bodyC Tryd.f82) 5 [m0]) (frm 58 [(0, .yl C.l), (1, .ref 0 0), (3, .ref 2 0), (5, .msl 3 1 0 g.length), (6, .msl 4 1 0 x6)]) (hp_reach_0 g start inn o3 o4) (by kernel_rfl) (by kernel_rfl) ?_
    obtain ⟨⟨g0, g1⟩, h⟩ := guardSome h
    obtain ⟨r, h2, rfl⟩ := mapSome h
    clear h
    have h := h2
    clear h2
    obtain ⟨hx, hi, hd⟩ := dropCons hd
    refine TrG.y (ops := regF Tryd.f82 5) hX 4 [0, 1, 3, 5, 6, 27] [0, 1, 2, 3, 4] (.g g0 <| .g g1 <| .e) (x := encI (o4.getD (0 + 0) 0)) (frm 58 [(0, .yl C.l), (1, .ref 0 0), (3, .ref 2 0), (5, .msl 3 1 0 g.length), (6, .msl 4 1 0 x6), (27, .bool false)]) (hp_reach_0 g start inn o3 o4) (frm 58 [(0, .yl C.l), (1, .ref 0 0), (3, .ref 2 0), (5, .msl 3 1 0 g.length), (6, .msl 4 1 0 x6), (27, .bool true)]) (hp_reach_0 g start inn o3 o4) (by kernel_rfl) (by kernel_rfl) (by kernel_rfl) hx (by kernel_rfl) ?_ ?_
    · generalize i + 1 = i at hi hd ⊢
      obtain ⟨⟨g2, g3, g4⟩, h⟩ := guardSome h
      exact TrK.g hX sch_reach 10 [0, 1, 3, 5, 6, 33, 34, 35] [0, 1, 2, 3, 4] [] (.g s_reach_6 <| .g g2 <| .g g3 <| .g g4 <| .e) (TrK.enter n (by kernel_rfl) (hself (.l2 x6 (g.getD ((o4.getD (0 + 0) 0).toNat) []) (((g.getD ((o4.getD (0 + 0) 0).toNat) []).length : Nat) : Int) 0 o3 o4) r h m0 n hm0 (Nat.le_refl _) i hi hd)) (by kernel_rfl) (by kernel_rfl)
    · exact TrI.e hX sch_reach 6 .e (by kernel_rfl) (.inr rfl)
  · cases h
    exact TrI.e hX sch_reach 10 (.o 19 (DLe.bool c0) <| .e) (by kernel_rfl) (.inl (by rw [dropNil hi hd]))
set_option maxRecDepth 100000 in
set_option maxHeartbeats 4000000 in
theorem reach_p2 (C : ItC Tryd.prog GG) (n : Nat) (self : reachPt → Option (List Int)) (g : List (List Int)) (start : Int) (inn : List Bool) (hself : ∀ pt r, self pt = some r → reach_at C n g start inn r pt) (x6 : Nat) (x33 : List Int) (x34 x35 : Int) (o3 : List Bool) (o4 : List Int) (r : List Int) (h : reach_l2 n self g start inn x6 x33 x34 x35 o3 o4 = some r) : reach_at C (n + 1) g start inn r (.l2 x6 x33 x34 x35 o3 o4) := by
  have hX : HX Fence.wide Tryd.prog := ⟨FOk.wide, by kernel_rfl⟩
  intro m0 m1 hm0 hm1
  intro i hi hd
  have hm0 := Nat.le_of_succ_le hm0
  refine TrK.round hm1 (by kernel_rfl) fun m1 hm1 => ?_
  unfold reach_l2 at h
  rcases bifSome h with ⟨c0, h⟩ | ⟨c0, h⟩
  · obtain ⟨⟨g0, g1⟩, h⟩ := guardSome h
    rcases bifSome h with ⟨c1, h⟩ | ⟨c1, h⟩
    · obtain ⟨⟨g2, g3⟩, h⟩ := guardSome h
      rcases bifSome h with ⟨c2, h⟩ | ⟨c2, h⟩
      · obtain ⟨⟨g4, g5⟩, h⟩ := guardSome h
        exact TrK.g hX sch_reach 22 [0, 1, 3, 5, 6, 33, 34, 35] [0, 1, 2, 3, 6] [] (.o 36 (DLe.bool c0) <| .g g0 <| .g g1 <| .o 42 (DLe.bool c1) <| .g g2 <| .g g3 <| .o 48 (DLe.bool c2) <| .g g2 <| .g g3 <| .g g4 <| .o 57 (wr64 g5) <| .e) (hself (.l2 (o4.length + ([x33.getD ((x35).toNat) 0] : List Int).length) x33 x34 (x35 + 1) (o3.set (0 + ((x33.getD ((x35).toNat) 0).toNat)) true) (o4 ++ ([x33.getD ((x35).toNat) 0] : List Int))) r h m0 m1 hm0 hm1 i hi hd) (by kernel_rfl) (by kernel_rfl)
      · obtain ⟨g4, h⟩ := guardSome h
        exact TrK.g hX sch_reach 20 [0, 1, 3, 5, 6, 33, 34, 35] [0, 1, 2, 3, 4] [] (.o 36 (DLe.bool c0) <| .g g0 <| .g g1 <| .o 42 (DLe.bool c1) <| .g g2 <| .g g3 <| .o 48 (DLe.bool c2) <| .o 57 (wr64 g4) <| .e) (hself (.l2 x6 x33 x34 (x35 + 1) o3 o4) r h m0 m1 hm0 hm1 i hi hd) (by kernel_rfl) (by kernel_rfl)
    · obtain ⟨g2, h⟩ := guardSome h
      exact TrK.g hX sch_reach 20 [0, 1, 3, 5, 6, 33, 34, 35] [0, 1, 2, 3, 4] [] (.o 36 (DLe.bool c0) <| .g g0 <| .g g1 <| .o 42 (DLe.bool c1) <| .o 57 (wr64 g2) <| .e) (hself (.l2 x6 x33 x34 (x35 + 1) o3 o4) r h m0 m1 hm0 hm1 i hi hd) (by kernel_rfl) (by kernel_rfl)
  · rcases bifSome h with ⟨c1, h⟩ | ⟨c1, h⟩
    · obtain ⟨g0, h⟩ := guardSome h
      exact TrK.g hX sch_reach 12 [0, 1, 3, 5, 6] [0, 1, 2, 3] [] (.o 36 (DLe.bool c0) <| .g g0 <| .o 21 (DLe.mse_nil (k := 4) (m := 1) (o := 1) (eq_of_beq c1)) <| .e) (hself (.l3 o3) r h m0 hm0 i hi hd) (by kernel_rfl) (by kernel_rfl)
    · obtain ⟨g0, h⟩ := guardSome h
      obtain ⟨g1, h⟩ := guardSome h
      refine TrK.gS hX sch_reach 12 [0, 1, 3, 5, 6] [0, 1, 2, 3, 4] [] (.o 36 (DLe.bool c0) <| .g g0 <| .o 21 (DLe.mse_msl (k := 4) (m := 1) (o := 1) (pos_of_bne c1) rfl) <| .e) [] .e (toN m0 (atNC (bodyC Tryd.f82) 0 [])) (frm 58 [(0, .yl C.l), (1, .ref 0 0), (3, .ref 2 0), (5, .msl 3 1 0 g.length), (6, .msl 4 1 1 (x6 - 1))]) (hp_reach_0 g start inn o3 o4) (by kernel_rfl) (by kernel_rfl) ?_
      refine TrK.le (SLe.rootE 4 1 ⟨frm 58 [(0, .yl C.l), (1, .ref 0 0), (3, .ref 2 0), (5, .msl 3 1 0 g.length), (6, .msl 5 1 0 (x6 - 1))], [some (.cells [.sl 1 g.length (rowE intsC g)]), some (.cells [.int .i64 start]), some (.cells [.bools inn]), some (.bools o3), none, some (.ints (o4.drop 1))]⟩ [1 ≤ o4.length] (by kernel_rfl) ⟨g1, trivial⟩) (by kernel_rfl) ?_
      refine TrK.le (SLe.compE [0, 1, 2, 3, 5] (by kernel_rfl)) (by kernel_rfl) ?_
      exact hself (.l1 (x6 - 1) o3 (o4.drop 1)) r h m0 hm0 i hi hd
set_option maxRecDepth 100000 in
set_option maxHeartbeats 4000000 in
theorem reach_p3 (C : ItC Tryd.prog GG) (n : Nat) (self : reachPt → Option (List Int)) (g : List (List Int)) (start : Int) (inn : List Bool) (hself : ∀ pt r, self pt = some r → reach_at C n g start inn r pt) (o3 : List Bool) (r : List Int) (h : reach_l3 n self g start inn o3 = some r) : reach_at C (n + 1) g start inn r (.l3 o3) := by
  have hX : HX Fence.wide Tryd.prog := ⟨FOk.wide, by kernel_rfl⟩
  intro m0 hm0
  intro i hi hd
  refine TrK.round hm0 (by kernel_rfl) fun m0 hm0 => ?_
  unfold reach_l3 at h
  cases h
  exact TrI.e hX sch_reach 10 .e (by kernel_rfl) (.inl (by rw [dropNil hi hd]))
theorem reach_all (C : ItC Tryd.prog GG) (g : List (List Int)) (start : Int) (inn : List Bool) : ∀ (n : Nat) (pt : reachPt) (r : List Int), reach_m g start inn n pt = some r → reach_at C n g start inn r pt
  | 0, _, _, h => by cases h
  | n + 1, .l1 x6 o3 o4, r, h => reach_p1 C n (reach_m g start inn n) g start inn (reach_all C g start inn n) x6 o3 o4 r h
  | n + 1, .l2 x6 x33 x34 x35 o3 o4, r, h => reach_p2 C n (reach_m g start inn n) g start inn (reach_all C g start inn n) x6 x33 x34 x35 o3 o4 r h
  | n + 1, .l3 o3, r, h => reach_p3 C n (reach_m g start inn n) g start inn (reach_all C g start inn n) o3 r h
set_option maxRecDepth 100000 in
set_option maxHeartbeats 4000000 in
theorem reach_it {n : Nat} (g : List (List Int)) (start : Int) (inn : List Bool) {r : List Int} (h : reach n g start inn = some r) (C : ItC Tryd.prog GG) (hC : C.encs = r.map encI) : TrG Tryd.prog GG Fence.wide none 3 (C.Y 3 0) (C.Q 3) [.code (bodyC Tryd.f82)] ⟨frm 58 [(0, .yl C.l), (1, .ref 0 0), (2, .ref 1 0), (3, .ref 2 0)], [some (.cells [.sl 1 g.length (rowE intsC g)]), some (.cells [.int .i64 start]), some (.cells [.bools inn])]⟩ := by
  have hX : HX Fence.wide Tryd.prog := ⟨FOk.wide, by kernel_rfl⟩
  suffices H : ∀ i : Nat, i ≤ C.encs.length → C.encs.drop i = r.map encI → TrG Tryd.prog GG Fence.wide none 3 (C.Y 3 i) (C.Q 3) [.code (bodyC Tryd.f82)] ⟨frm 58 [(0, .yl C.l), (1, .ref 0 0), (2, .ref 1 0), (3, .ref 2 0)], [some (.cells [.sl 1 g.length (rowE intsC g)]), some (.cells [.int .i64 start]), some (.cells [.bools inn])]⟩ from H 0 (Nat.zero_le _) (by rw [List.drop_zero]; exact hC)
  intro i hi hd
  have hself := reach_all C g start inn n
  unfold reach at h
  generalize reach_m g start inn n = self at h hself
  unfold reach_l0 at h
  obtain ⟨⟨g0, g1, g2⟩, h⟩ := guardSome h
  exact TrK.g hX sch_reach 12 [0, 1, 3, 5, 6] [0, 1, 2, 3, 4] [] (.g g0 <| .g g1 <| .g g2 <| .e) (TrK.enter n (by kernel_rfl) (hself (.l1 1 ((List.replicate g.length false).set (0 + ((start).toNat)) true) ([start] : List Int)) r h n (Nat.le_refl _) i hi hd)) (by kernel_rfl) (by kernel_rfl)


set_option maxRecDepth 100000 in
theorem reachM_iter {n : Nat} {g_ : List (List Int)} {in_ : List Bool} {start : Int} {r : List Int} (h : reach n g_ start in_ = some r) (H : DH) : ES Tryd.prog GG 80 [.sl 1 g_.length (rowE intsC g_), .bools in_, .int .i64 start] H (.it H.length) (H ++ [some (.iter (r.map encI))]) true := by
  refine ES.iterN (c := L1 [.ref 0 0, .ref 1 0, .ref 2 0]) (h0 := [some (.cells [.sl 1 g_.length (rowE intsC g_)]), some (.cells [.int .i64 start]), some (.cells [.bools in_])]) (fn := Tryd.f82) (reachM_ok (n := 0) g_ in_ start (r := ()) rfl) (by kernel_rfl) Tryd.func82 (by kernel_rfl) (by kernel_rfl) (by kernel_rfl) (fun C hC => ?_) H
  have e : DV.yl C.l :: (List.range 3).map (L1 [.ref 0 0, .ref 1 0, .ref 2 0]) ++ List.replicate (Tryd.f82.ntmps - (3 + 1)) .any = frm 58 [(0, .yl C.l), (1, .ref 0 0), (2, .ref 1 0), (3, .ref 2 0)] := by kernel_rfl
  rw [e]
  exact reach_it g_ start in_ h C hC

end Go.Proofs.YtekkngkphejfcaaDoor
