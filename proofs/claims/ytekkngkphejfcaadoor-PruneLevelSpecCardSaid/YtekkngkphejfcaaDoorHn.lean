/- Functions read off the code: pruning, whole. -/
import Derived.Test.YtekkngkphejfcaaDoorHh
import Derived.Test.YtekkngkphejfcaaDoorHm
namespace Go.Proofs.YtekkngkphejfcaaDoor
open Go.RowKit

def a_prunedP_6 : Prop := SOk (regF Tryd.f25 6) [([0, 1, 2, 3, 4, 5, 6, 7, 8], 9), ([10], 11)] [12] []
theorem s_prunedP_6 : a_prunedP_6 := by unfold a_prunedP_6 SOk; kernel_rfl
def a_prunedP_13 : Prop := SOk (regF Tryd.f25 13) [] [0, 1, 2, 3, 4, 5, 6, 7, 8, 9, 10, 11, 12] [13]
theorem s_prunedP_13 : a_prunedP_13 := by unfold a_prunedP_13 SOk; kernel_rfl
def sch_prunedP : Sch := fun i => match i with
  | 6 => .ord [([0, 1, 2, 3, 4, 5, 6, 7, 8], 9), ([10], 11)] [12] []
  | 13 => .ord [] [0, 1, 2, 3, 4, 5, 6, 7, 8, 9, 10, 11, 12] [13]
  | _ => .no
def hp_prunedP_0 (q : ProbD) (pos : List Int) : DH := [some (.cells (probC q)), some (.cells [.cst .nilFunc, .fn 40 0 (L1 []), .fn 41 0 (L1 []), .fn 42 0 (L1 []), .fn 43 0 (L1 []), .fn 44 0 (L1 []), .fn 45 0 (L1 []), .fn 46 0 (L1 []), .fn 47 0 (L1 []), .fn 48 0 (L1 [])]), some (.ints (List.replicate pos.length (0 : Int)))]
def hp_prunedP_1 (q : ProbD) (pos : List Int) (i : Int) : DH := [some (.cells (probC q)), some (.cells [.cst .nilFunc, .fn 40 0 (L1 []), .fn 41 0 (L1 []), .fn 42 0 (L1 []), .fn 43 0 (L1 []), .fn 44 0 (L1 []), .fn 45 0 (L1 []), .fn 46 0 (L1 []), .fn 47 0 (L1 []), .fn 48 0 (L1 [])]), some (.ints (List.replicate pos.length (0 : Int))), some (.ints (List.replicate pos.length (0 : Int))), some (.cells (consC (q.cons.getD ((i).toNat) default) ++ probC q ++ [.ints pos, .msl 3 1 0 pos.length]))]
def hp_prunedP_2 (pos : List Int) (q : ProbD) (i : Int) (o2 : List Int) : DH := [some (.ints (List.replicate pos.length (0 : Int))), some (.cells (consC (q.cons.getD ((i).toNat) default) ++ probC q ++ [.ints pos, .msl 2 1 0 pos.length])), some (.ints o2)]
def hp_prunedP_3 (pos : List Int) (q : ProbD) (i : Int) (o2 o3 : List Int) : DH := [some (.ints (List.replicate pos.length (0 : Int))), some (.cells (consC (q.cons.getD ((i).toNat) default) ++ probC q ++ [.ints pos, .msl 2 1 0 pos.length])), some (.ints o2), some (.ints o3)]
inductive prunedPPt where
  | l1 (o2 : List Int)
  | l2 (x10 : Nat) (x47 x48 : Int) (o2 o3 : List Int)
def prunedP_l1 (n : Nat) (self : prunedPPt → Option ((List Int))) (q : ProbD) (i : Int) (pos : List Int) (o2 : List Int) : Option ((List Int)) :=
  (cloneI n pos).bind fun y1 =>
   self (.l2 y1.length ((y1.length : Nat) : Int) 0 o2 y1)
def prunedP_l2 (n : Nat) (self : prunedPPt → Option ((List Int))) (q : ProbD) (i : Int) (pos : List Int) (x10 : Nat) (x47 x48 : Int) (o2 o3 : List Int) : Option ((List Int)) :=
  bif (decide (x48 < x47)) then
   if ((0 : Int) ≤ x48 ∧ x48 < ((x10 : Nat) : Int)) ∧ 0 + ((x48).toNat) < o3.length ∧ ((0 : Int) ≤ x48 ∧ x48 < ((pos.length : Nat) : Int)) ∧ 0 + ((x48).toNat) < o2.length ∧ R64 (x48 + 1) then
    self (.l2 x10 x47 (x48 + 1) o2 (o3.set (0 + ((x48).toNat)) (bits .andNot .i64 (o3.getD (0 + ((x48).toNat)) 0) (o2.getD (0 + ((x48).toNat)) 0))))
   else none
  else
   if x10 = o3.length then
    (isDead n o3).bind fun y1 =>
     bif y1 then
      if pos.length = (List.replicate pos.length (0 : Int)).length then
       some (List.replicate pos.length (0 : Int))
      else none
     else
      some o3
   else none
def prunedP_l0 (n : Nat) (self : prunedPPt → Option ((List Int))) (q : ProbD) (i : Int) (pos : List Int) : Option ((List Int)) :=
  if (((pos.length : Nat) : Int) : Int) = ((pos.length : Nat) : Int) ∧ (0 : Int) ≤ ((pos.length : Nat) : Int) ∧ (((pos.length : Nat) : Int) : Int) ≤ 1000000000000 then
   (isDead n pos).bind fun y1 =>
    bif y1 then
     if pos.length = (List.replicate pos.length (0 : Int)).length then
      some (List.replicate pos.length (0 : Int))
     else none
    else
     if (0 : Int) ≤ i ∧ i < ((q.cons.length : Nat) : Int) then
      bif (((q.cons.getD ((i).toNat) default).kind) == 0) then
       none
      else
       bif (((q.cons.getD ((i).toNat) default).kind) == 1) then
        (diffW n (q.cons.getD ((i).toNat) default) q pos pos.length (List.replicate pos.length (0 : Int))).bind fun y2 =>
         bif (!y2.1) then
          if pos.length = (List.replicate pos.length (0 : Int)).length then
           some (List.replicate pos.length (0 : Int))
          else none
         else
          self (.l1 y2.2)
       else
        bif (((q.cons.getD ((i).toNat) default).kind) == 2) then
         (countW n (q.cons.getD ((i).toNat) default) q pos pos.length (List.replicate pos.length (0 : Int))).bind fun y2 =>
          bif (!y2.1) then
           if pos.length = (List.replicate pos.length (0 : Int)).length then
            some (List.replicate pos.length (0 : Int))
           else none
          else
           self (.l1 y2.2)
        else
         bif (((q.cons.getD ((i).toNat) default).kind) == 3) then
          (sumW n (q.cons.getD ((i).toNat) default) q pos pos.length (List.replicate pos.length (0 : Int))).bind fun y2 =>
           bif (!y2.1) then
            if pos.length = (List.replicate pos.length (0 : Int)).length then
             some (List.replicate pos.length (0 : Int))
            else none
           else
            self (.l1 y2.2)
         else
          bif (((q.cons.getD ((i).toNat) default).kind) == 4) then
           (riseW n (q.cons.getD ((i).toNat) default) q pos pos.length (List.replicate pos.length (0 : Int))).bind fun y2 =>
            bif (!y2.1) then
             if pos.length = (List.replicate pos.length (0 : Int)).length then
              some (List.replicate pos.length (0 : Int))
             else none
            else
             self (.l1 y2.2)
          else
           bif (((q.cons.getD ((i).toNat) default).kind) == 5) then
            (runsW n (q.cons.getD ((i).toNat) default) q pos pos.length (List.replicate pos.length (0 : Int))).bind fun y2 =>
             bif (!y2.1) then
              if pos.length = (List.replicate pos.length (0 : Int)).length then
               some (List.replicate pos.length (0 : Int))
              else none
             else
              self (.l1 y2.2)
           else
            bif (((q.cons.getD ((i).toNat) default).kind) == 6) then
             (apartW n (q.cons.getD ((i).toNat) default) q pos pos.length (List.replicate pos.length (0 : Int))).bind fun y2 =>
              bif (!y2.1) then
               if pos.length = (List.replicate pos.length (0 : Int)).length then
                some (List.replicate pos.length (0 : Int))
               else none
              else
               self (.l1 y2.2)
            else
             bif (((q.cons.getD ((i).toNat) default).kind) == 7) then
              (notW n (q.cons.getD ((i).toNat) default) q pos pos.length (List.replicate pos.length (0 : Int))).bind fun y2 =>
               bif (!y2.1) then
                if pos.length = (List.replicate pos.length (0 : Int)).length then
                 some (List.replicate pos.length (0 : Int))
                else none
               else
                self (.l1 y2.2)
             else
              bif (((q.cons.getD ((i).toNat) default).kind) == 8) then
               (connW n (q.cons.getD ((i).toNat) default) q pos pos.length (List.replicate pos.length (0 : Int))).bind fun y2 =>
                bif (!y2.1) then
                 if pos.length = (List.replicate pos.length (0 : Int)).length then
                  some (List.replicate pos.length (0 : Int))
                 else none
                else
                 self (.l1 y2.2)
              else
               bif (((q.cons.getD ((i).toNat) default).kind) == 9) then
                (loopW n (q.cons.getD ((i).toNat) default) q pos pos.length (List.replicate pos.length (0 : Int))).bind fun y2 =>
                 bif (!y2.1) then
                  if pos.length = (List.replicate pos.length (0 : Int)).length then
                   some (List.replicate pos.length (0 : Int))
                  else none
                 else
                  self (.l1 y2.2)
               else
                none
     else none
  else none
def prunedP_m (q : ProbD) (i : Int) (pos : List Int) : Nat → prunedPPt → Option ((List Int))
  | 0, _ => none
  | n + 1, .l1 o2 => prunedP_l1 n (prunedP_m q i pos n) q i pos o2
  | n + 1, .l2 x10 x47 x48 o2 o3 => prunedP_l2 n (prunedP_m q i pos n) q i pos x10 x47 x48 o2 o3
def prunedP (n : Nat) (q : ProbD) (i : Int) (pos : List Int) : Option ((List Int)) := prunedP_l0 n (prunedP_m q i pos n) q i pos
/-- What the points stand for. -/
def prunedP_at (n : Nat) (B : Nat) (N : Yard Tryd.prog GG 0) (q : ProbD) (i : Int) (pos : List Int) (r : (List Int)) : prunedPPt → Prop
  | .l1 o2 => TrK Tryd.prog GG Fence.wide (some B) 0 N (Fin Tryd.prog Tryd.f25 0 (.ints r) []) (atGC (bodyC Tryd.f25) 9 []) ⟨frm 69 [(2, .ints pos), (8, .msl 0 1 0 pos.length), (9, .ref 1 0)], [some (.ints (List.replicate pos.length (0 : Int))), some (.cells (consC (q.cons.getD ((i).toNat) default) ++ probC q ++ [.ints pos, .msl 2 1 0 pos.length])), some (.ints o2)]⟩
  | .l2 x10 x47 x48 o2 o3 => ∀ m0 : Nat, n ≤ m0 → TrK Tryd.prog GG Fence.wide (some B) 0 N (Fin Tryd.prog Tryd.f25 0 (.ints r) []) (toN m0 (atNC (bodyC Tryd.f25) 0 [])) ⟨frm 69 [(8, .msl 0 1 0 pos.length), (9, .ref 1 0), (10, .msl 3 1 0 x10), (47, .int .i64 x47), (48, .int .i64 x48)], [some (.ints (List.replicate pos.length (0 : Int))), some (.cells (consC (q.cons.getD ((i).toNat) default) ++ probC q ++ [.ints pos, .msl 2 1 0 pos.length])), some (.ints o2), some (.ints o3)]⟩
set_option maxRecDepth 100000 in
set_option maxHeartbeats 4000000 in
theorem prunedP_p1 (n B : Nat) (N : Yard Tryd.prog GG 0) (self : prunedPPt → Option ((List Int))) (q : ProbD) (i : Int) (pos : List Int) (hself : ∀ pt r, self pt = some r → prunedP_at n B N q i pos r pt) (o2 : List Int) (r : (List Int)) (h : prunedP_l1 n self q i pos o2 = some r) : prunedP_at (n + 1) B N q i pos r (.l1 o2) := by
  have hX : HX Fence.wide Tryd.prog := ⟨FOk.wide, by kernel_rfl⟩
  show TrK _ _ _ _ _ _ _ _ _
  unfold prunedP_l1 at h
  obtain ⟨y1, hy1, h⟩ := bindSome h
  exact TrK.g hX sch_prunedP 10 [8, 9, 10, 47, 48] [0, 1, 2, 3] [] (.c (ES.snapNew (ds := [.ints pos]) (cloneI_ok pos hy1) (hp_prunedP_2 pos q i o2) (allSnap_plain (by kernel_rfl)) rfl) <| .e) (TrK.enter n (by kernel_rfl) (hself (.l2 y1.length ((y1.length : Nat) : Int) 0 o2 y1) r h n (Nat.le_refl _))) (by kernel_rfl) (by kernel_rfl)
set_option maxRecDepth 100000 in
set_option maxHeartbeats 4000000 in
theorem prunedP_p2 (n B : Nat) (N : Yard Tryd.prog GG 0) (self : prunedPPt → Option ((List Int))) (q : ProbD) (i : Int) (pos : List Int) (hself : ∀ pt r, self pt = some r → prunedP_at n B N q i pos r pt) (x10 : Nat) (x47 x48 : Int) (o2 o3 : List Int) (r : (List Int)) (h : prunedP_l2 n self q i pos x10 x47 x48 o2 o3 = some r) : prunedP_at (n + 1) B N q i pos r (.l2 x10 x47 x48 o2 o3) := by
  have hX : HX Fence.wide Tryd.prog := ⟨FOk.wide, by kernel_rfl⟩
  intro m0 hm0
  refine TrK.round hm0 (by kernel_rfl) fun m0 hm0 => ?_
  unfold prunedP_l2 at h
  rcases bifSome h with ⟨c0, h⟩ | ⟨c0, h⟩
  · obtain ⟨⟨g0, g1, g2, g3, g4⟩, h⟩ := guardSome h
    exact TrK.g hX (stopAt 9 sch_prunedP) 17 [8, 9, 10, 47, 48] [0, 1, 2, 3] [] (.o 49 (DLe.bool c0) <| .g s_prunedP_13 <| .g g0 <| .g g1 <| .g g2 <| .g g3 <| .g g0 <| .g g1 <| .o 64 (wr64 g4) <| .e) (hself (.l2 x10 x47 (x48 + 1) o2 (o3.set (0 + ((x48).toNat)) (bits .andNot .i64 (o3.getD (0 + ((x48).toNat)) 0) (o2.getD (0 + ((x48).toNat)) 0)))) r h m0 hm0) (by kernel_rfl) (by kernel_rfl)
  · obtain ⟨g0, h⟩ := guardSome h
    obtain ⟨y1, hy1, h⟩ := bindSome h
    rcases bifSome h with ⟨c1, h⟩ | ⟨c1, h⟩
    · obtain ⟨g1, h⟩ := guardSome h
      cases h
      exact TrK.e hX (stopAt 9 sch_prunedP) 16 [6] [0] [] (.o 49 (DLe.bool c0) <| .c (ES.snapB (ds := [.msl 3 1 0 x10]) (isDead_ok o3 hy1) (hp_prunedP_3 pos q i o2 o3) ⟨Snap.ints rfl g0, trivial⟩ (by kernel_rfl)) <| .o 66 (DLe.bool c1) <| .e) [0] (.g g1 <| .e) (by kernel_rfl)
    · obtain rfl := Option.some.inj h
      exact TrK.e hX (stopAt 9 sch_prunedP) 17 [6] [3] [] (.o 49 (DLe.bool c0) <| .c (ES.snapB (ds := [.msl 3 1 0 x10]) (isDead_ok o3 hy1) (hp_prunedP_3 pos q i o2 o3) ⟨Snap.ints rfl g0, trivial⟩ (by kernel_rfl)) <| .o 66 (DLe.bool c1) <| .e) [0] (.g g0 <| .e) (by kernel_rfl)
theorem prunedP_all (B : Nat) (N : Yard Tryd.prog GG 0) (q : ProbD) (i : Int) (pos : List Int) : ∀ (n : Nat) (pt : prunedPPt) (r : (List Int)), prunedP_m q i pos n pt = some r → prunedP_at n B N q i pos r pt
  | 0, _, _, h => by cases h
  | n + 1, .l1 o2, r, h => prunedP_p1 n B N (prunedP_m q i pos n) q i pos (prunedP_all B N q i pos n) o2 r h
  | n + 1, .l2 x10 x47 x48 o2 o3, r, h => prunedP_p2 n B N (prunedP_m q i pos n) q i pos (prunedP_all B N q i pos n) x10 x47 x48 o2 o3 r h
set_option maxRecDepth 100000 in
set_option maxHeartbeats 4000000 in
theorem prunedP_ok {n : Nat} (q : ProbD) (i : Int) (pos : List Int) {r : (List Int)} (h : prunedP n q i pos = some r) : ES Tryd.prog GG 25 [.agg 5 (L1 (probC q)), .int .i64 i, .ints pos] [] (.ints r) [] true := by
  have hX : HX Fence.wide Tryd.prog := ⟨FOk.wide, by kernel_rfl⟩
  refine ES.of_trk Tryd.func25 (by kernel_rfl) (by kernel_rfl) noIter_nil (fun _ => rfl) fun B N => ?_
  have hself := prunedP_all B N q i pos n
  unfold prunedP at h
  generalize prunedP_m q i pos n = self at h hself
  unfold prunedP_l0 at h
  obtain ⟨g0, h⟩ := guardSome h
  obtain ⟨y1, hy1, h⟩ := bindSome h
  rcases bifSome h with ⟨c0, h⟩ | ⟨c0, h⟩
  · obtain ⟨g1, h⟩ := guardSome h
    cases h
    exact TrK.e hX (stopAt 9 sch_prunedP) 19 [6] [2] [] (.g trivial <| .g g0 <| .c (ES.frameB (isDead_ok pos hy1) (hp_prunedP_0 q pos) (by kernel_rfl)) <| .o 18 (DLe.bool c0) <| .e) [0] (.g g1 <| .e) (by kernel_rfl)
  · obtain ⟨g1, h⟩ := guardSome h
    rcases bifSome h with ⟨c1, h⟩ | ⟨c1, h⟩
    · cases h
    · rcases bifSome h with ⟨c3, h⟩ | ⟨c3, h⟩
      · obtain ⟨y2, hy2, h⟩ := bindSome h
        rcases bifSome h with ⟨c5, h⟩ | ⟨c5, h⟩
        · obtain ⟨g2, h⟩ := guardSome h
          cases h
          exact TrK.e hX (stopAt 9 sch_prunedP) 26 [6] [2] [] (.g trivial <| .g g0 <| .c (ES.frameB (isDead_ok pos hy1) (hp_prunedP_0 q pos) (by kernel_rfl)) <| .o 18 (DLe.bool c0) <| .g s_prunedP_6 <| .g g1 <| .g g0 <| .o 36 (DLe.int (k := .i64) (eq_of_beq c3)) <| .g (by decide : (0 : Int) ≤ 1 ∧ 1 < ((10 : Nat) : Int)) <| .c (ES.emC (diffW_ok (q.cons.getD ((i).toNat) default) q pos pos.length (List.replicate pos.length (0 : Int)) hy2) [4, 3] (hp_prunedP_1 q pos i) (by kernel_rfl) (by kernel_rfl)) <| .o 42 (DLe.bool c5) <| .e) [0] (.g g2 <| .e) (by kernel_rfl)
        · exact TrK.g hX (stopAt 9 sch_prunedP) 26 [2, 8, 9] [2, 4, 3] [] (.g trivial <| .g g0 <| .c (ES.frameB (isDead_ok pos hy1) (hp_prunedP_0 q pos) (by kernel_rfl)) <| .o 18 (DLe.bool c0) <| .g s_prunedP_6 <| .g g1 <| .g g0 <| .o 36 (DLe.int (k := .i64) (eq_of_beq c3)) <| .g (by decide : (0 : Int) ≤ 1 ∧ 1 < ((10 : Nat) : Int)) <| .c (ES.emC (diffW_ok (q.cons.getD ((i).toNat) default) q pos pos.length (List.replicate pos.length (0 : Int)) hy2) [4, 3] (hp_prunedP_1 q pos i) (by kernel_rfl) (by kernel_rfl)) <| .o 42 (DLe.bool c5) <| .e) (hself (.l1 y2.2) r h) (by kernel_rfl) (by kernel_rfl)
      · rcases bifSome h with ⟨c5, h⟩ | ⟨c5, h⟩
        · obtain ⟨y2, hy2, h⟩ := bindSome h
          rcases bifSome h with ⟨c7, h⟩ | ⟨c7, h⟩
          · obtain ⟨g2, h⟩ := guardSome h
            cases h
            exact TrK.e hX (stopAt 9 sch_prunedP) 26 [6] [2] [] (.g trivial <| .g g0 <| .c (ES.frameB (isDead_ok pos hy1) (hp_prunedP_0 q pos) (by kernel_rfl)) <| .o 18 (DLe.bool c0) <| .g s_prunedP_6 <| .g g1 <| .g g0 <| .o 36 (DLe.int (k := .i64) (eq_of_beq c5)) <| .g (by decide : (0 : Int) ≤ 2 ∧ 2 < ((10 : Nat) : Int)) <| .c (ES.emC (countW_ok (q.cons.getD ((i).toNat) default) q pos pos.length (List.replicate pos.length (0 : Int)) hy2) [4, 3] (hp_prunedP_1 q pos i) (by kernel_rfl) (by kernel_rfl)) <| .o 42 (DLe.bool c7) <| .e) [0] (.g g2 <| .e) (by kernel_rfl)
          · exact TrK.g hX (stopAt 9 sch_prunedP) 26 [2, 8, 9] [2, 4, 3] [] (.g trivial <| .g g0 <| .c (ES.frameB (isDead_ok pos hy1) (hp_prunedP_0 q pos) (by kernel_rfl)) <| .o 18 (DLe.bool c0) <| .g s_prunedP_6 <| .g g1 <| .g g0 <| .o 36 (DLe.int (k := .i64) (eq_of_beq c5)) <| .g (by decide : (0 : Int) ≤ 2 ∧ 2 < ((10 : Nat) : Int)) <| .c (ES.emC (countW_ok (q.cons.getD ((i).toNat) default) q pos pos.length (List.replicate pos.length (0 : Int)) hy2) [4, 3] (hp_prunedP_1 q pos i) (by kernel_rfl) (by kernel_rfl)) <| .o 42 (DLe.bool c7) <| .e) (hself (.l1 y2.2) r h) (by kernel_rfl) (by kernel_rfl)
        · rcases bifSome h with ⟨c7, h⟩ | ⟨c7, h⟩
          · obtain ⟨y2, hy2, h⟩ := bindSome h
            rcases bifSome h with ⟨c9, h⟩ | ⟨c9, h⟩
            · obtain ⟨g2, h⟩ := guardSome h
              cases h
              exact TrK.e hX (stopAt 9 sch_prunedP) 26 [6] [2] [] (.g trivial <| .g g0 <| .c (ES.frameB (isDead_ok pos hy1) (hp_prunedP_0 q pos) (by kernel_rfl)) <| .o 18 (DLe.bool c0) <| .g s_prunedP_6 <| .g g1 <| .g g0 <| .o 36 (DLe.int (k := .i64) (eq_of_beq c7)) <| .g (by decide : (0 : Int) ≤ 3 ∧ 3 < ((10 : Nat) : Int)) <| .c (ES.emC (sumW_ok (q.cons.getD ((i).toNat) default) q pos pos.length (List.replicate pos.length (0 : Int)) hy2) [4, 3] (hp_prunedP_1 q pos i) (by kernel_rfl) (by kernel_rfl)) <| .o 42 (DLe.bool c9) <| .e) [0] (.g g2 <| .e) (by kernel_rfl)
            · exact TrK.g hX (stopAt 9 sch_prunedP) 26 [2, 8, 9] [2, 4, 3] [] (.g trivial <| .g g0 <| .c (ES.frameB (isDead_ok pos hy1) (hp_prunedP_0 q pos) (by kernel_rfl)) <| .o 18 (DLe.bool c0) <| .g s_prunedP_6 <| .g g1 <| .g g0 <| .o 36 (DLe.int (k := .i64) (eq_of_beq c7)) <| .g (by decide : (0 : Int) ≤ 3 ∧ 3 < ((10 : Nat) : Int)) <| .c (ES.emC (sumW_ok (q.cons.getD ((i).toNat) default) q pos pos.length (List.replicate pos.length (0 : Int)) hy2) [4, 3] (hp_prunedP_1 q pos i) (by kernel_rfl) (by kernel_rfl)) <| .o 42 (DLe.bool c9) <| .e) (hself (.l1 y2.2) r h) (by kernel_rfl) (by kernel_rfl)
          · rcases bifSome h with ⟨c9, h⟩ | ⟨c9, h⟩
            · obtain ⟨y2, hy2, h⟩ := bindSome h
              rcases bifSome h with ⟨c11, h⟩ | ⟨c11, h⟩
              · obtain ⟨g2, h⟩ := guardSome h
                cases h
                exact TrK.e hX (stopAt 9 sch_prunedP) 26 [6] [2] [] (.g trivial <| .g g0 <| .c (ES.frameB (isDead_ok pos hy1) (hp_prunedP_0 q pos) (by kernel_rfl)) <| .o 18 (DLe.bool c0) <| .g s_prunedP_6 <| .g g1 <| .g g0 <| .o 36 (DLe.int (k := .i64) (eq_of_beq c9)) <| .g (by decide : (0 : Int) ≤ 4 ∧ 4 < ((10 : Nat) : Int)) <| .c (ES.emC (riseW_ok (q.cons.getD ((i).toNat) default) q pos pos.length (List.replicate pos.length (0 : Int)) hy2) [4, 3] (hp_prunedP_1 q pos i) (by kernel_rfl) (by kernel_rfl)) <| .o 42 (DLe.bool c11) <| .e) [0] (.g g2 <| .e) (by kernel_rfl)
              · exact TrK.g hX (stopAt 9 sch_prunedP) 26 [2, 8, 9] [2, 4, 3] [] (.g trivial <| .g g0 <| .c (ES.frameB (isDead_ok pos hy1) (hp_prunedP_0 q pos) (by kernel_rfl)) <| .o 18 (DLe.bool c0) <| .g s_prunedP_6 <| .g g1 <| .g g0 <| .o 36 (DLe.int (k := .i64) (eq_of_beq c9)) <| .g (by decide : (0 : Int) ≤ 4 ∧ 4 < ((10 : Nat) : Int)) <| .c (ES.emC (riseW_ok (q.cons.getD ((i).toNat) default) q pos pos.length (List.replicate pos.length (0 : Int)) hy2) [4, 3] (hp_prunedP_1 q pos i) (by kernel_rfl) (by kernel_rfl)) <| .o 42 (DLe.bool c11) <| .e) (hself (.l1 y2.2) r h) (by kernel_rfl) (by kernel_rfl)
            · rcases bifSome h with ⟨c11, h⟩ | ⟨c11, h⟩
              · obtain ⟨y2, hy2, h⟩ := bindSome h
                rcases bifSome h with ⟨c13, h⟩ | ⟨c13, h⟩
                · obtain ⟨g2, h⟩ := guardSome h
                  cases h
                  exact TrK.e hX (stopAt 9 sch_prunedP) 26 [6] [2] [] (.g trivial <| .g g0 <| .c (ES.frameB (isDead_ok pos hy1) (hp_prunedP_0 q pos) (by kernel_rfl)) <| .o 18 (DLe.bool c0) <| .g s_prunedP_6 <| .g g1 <| .g g0 <| .o 36 (DLe.int (k := .i64) (eq_of_beq c11)) <| .g (by decide : (0 : Int) ≤ 5 ∧ 5 < ((10 : Nat) : Int)) <| .c (ES.emC (runsW_ok (q.cons.getD ((i).toNat) default) q pos pos.length (List.replicate pos.length (0 : Int)) hy2) [4, 3] (hp_prunedP_1 q pos i) (by kernel_rfl) (by kernel_rfl)) <| .o 42 (DLe.bool c13) <| .e) [0] (.g g2 <| .e) (by kernel_rfl)
                · exact TrK.g hX (stopAt 9 sch_prunedP) 26 [2, 8, 9] [2, 4, 3] [] (.g trivial <| .g g0 <| .c (ES.frameB (isDead_ok pos hy1) (hp_prunedP_0 q pos) (by kernel_rfl)) <| .o 18 (DLe.bool c0) <| .g s_prunedP_6 <| .g g1 <| .g g0 <| .o 36 (DLe.int (k := .i64) (eq_of_beq c11)) <| .g (by decide : (0 : Int) ≤ 5 ∧ 5 < ((10 : Nat) : Int)) <| .c (ES.emC (runsW_ok (q.cons.getD ((i).toNat) default) q pos pos.length (List.replicate pos.length (0 : Int)) hy2) [4, 3] (hp_prunedP_1 q pos i) (by kernel_rfl) (by kernel_rfl)) <| .o 42 (DLe.bool c13) <| .e) (hself (.l1 y2.2) r h) (by kernel_rfl) (by kernel_rfl)
              · rcases bifSome h with ⟨c13, h⟩ | ⟨c13, h⟩
                · obtain ⟨y2, hy2, h⟩ := bindSome h
                  rcases bifSome h with ⟨c15, h⟩ | ⟨c15, h⟩
                  · obtain ⟨g2, h⟩ := guardSome h
                    cases h
                    exact TrK.e hX (stopAt 9 sch_prunedP) 26 [6] [2] [] (.g trivial <| .g g0 <| .c (ES.frameB (isDead_ok pos hy1) (hp_prunedP_0 q pos) (by kernel_rfl)) <| .o 18 (DLe.bool c0) <| .g s_prunedP_6 <| .g g1 <| .g g0 <| .o 36 (DLe.int (k := .i64) (eq_of_beq c13)) <| .g (by decide : (0 : Int) ≤ 6 ∧ 6 < ((10 : Nat) : Int)) <| .c (ES.emC (apartW_ok (q.cons.getD ((i).toNat) default) q pos pos.length (List.replicate pos.length (0 : Int)) hy2) [4, 3] (hp_prunedP_1 q pos i) (by kernel_rfl) (by kernel_rfl)) <| .o 42 (DLe.bool c15) <| .e) [0] (.g g2 <| .e) (by kernel_rfl)
                  · exact TrK.g hX (stopAt 9 sch_prunedP) 26 [2, 8, 9] [2, 4, 3] [] (.g trivial <| .g g0 <| .c (ES.frameB (isDead_ok pos hy1) (hp_prunedP_0 q pos) (by kernel_rfl)) <| .o 18 (DLe.bool c0) <| .g s_prunedP_6 <| .g g1 <| .g g0 <| .o 36 (DLe.int (k := .i64) (eq_of_beq c13)) <| .g (by decide : (0 : Int) ≤ 6 ∧ 6 < ((10 : Nat) : Int)) <| .c (ES.emC (apartW_ok (q.cons.getD ((i).toNat) default) q pos pos.length (List.replicate pos.length (0 : Int)) hy2) [4, 3] (hp_prunedP_1 q pos i) (by kernel_rfl) (by kernel_rfl)) <| .o 42 (DLe.bool c15) <| .e) (hself (.l1 y2.2) r h) (by kernel_rfl) (by kernel_rfl)
                · rcases bifSome h with ⟨c15, h⟩ | ⟨c15, h⟩
                  · obtain ⟨y2, hy2, h⟩ := bindSome h
                    rcases bifSome h with ⟨c17, h⟩ | ⟨c17, h⟩
                    · obtain ⟨g2, h⟩ := guardSome h
                      cases h
                      exact TrK.e hX (stopAt 9 sch_prunedP) 26 [6] [2] [] (.g trivial <| .g g0 <| .c (ES.frameB (isDead_ok pos hy1) (hp_prunedP_0 q pos) (by kernel_rfl)) <| .o 18 (DLe.bool c0) <| .g s_prunedP_6 <| .g g1 <| .g g0 <| .o 36 (DLe.int (k := .i64) (eq_of_beq c15)) <| .g (by decide : (0 : Int) ≤ 7 ∧ 7 < ((10 : Nat) : Int)) <| .c (ES.emC (notW_ok (q.cons.getD ((i).toNat) default) q pos pos.length (List.replicate pos.length (0 : Int)) hy2) [4, 3] (hp_prunedP_1 q pos i) (by kernel_rfl) (by kernel_rfl)) <| .o 42 (DLe.bool c17) <| .e) [0] (.g g2 <| .e) (by kernel_rfl)
                    · exact TrK.g hX (stopAt 9 sch_prunedP) 26 [2, 8, 9] [2, 4, 3] [] (.g trivial <| .g g0 <| .c (ES.frameB (isDead_ok pos hy1) (hp_prunedP_0 q pos) (by kernel_rfl)) <| .o 18 (DLe.bool c0) <| .g s_prunedP_6 <| .g g1 <| .g g0 <| .o 36 (DLe.int (k := .i64) (eq_of_beq c15)) <| .g (by decide : (0 : Int) ≤ 7 ∧ 7 < ((10 : Nat) : Int)) <| .c (ES.emC (notW_ok (q.cons.getD ((i).toNat) default) q pos pos.length (List.replicate pos.length (0 : Int)) hy2) [4, 3] (hp_prunedP_1 q pos i) (by kernel_rfl) (by kernel_rfl)) <| .o 42 (DLe.bool c17) <| .e) (hself (.l1 y2.2) r h) (by kernel_rfl) (by kernel_rfl)
                  · rcases bifSome h with ⟨c17, h⟩ | ⟨c17, h⟩
                    · obtain ⟨y2, hy2, h⟩ := bindSome h
                      rcases bifSome h with ⟨c19, h⟩ | ⟨c19, h⟩
                      · obtain ⟨g2, h⟩ := guardSome h
                        cases h
                        exact TrK.e hX (stopAt 9 sch_prunedP) 26 [6] [2] [] (.g trivial <| .g g0 <| .c (ES.frameB (isDead_ok pos hy1) (hp_prunedP_0 q pos) (by kernel_rfl)) <| .o 18 (DLe.bool c0) <| .g s_prunedP_6 <| .g g1 <| .g g0 <| .o 36 (DLe.int (k := .i64) (eq_of_beq c17)) <| .g (by decide : (0 : Int) ≤ 8 ∧ 8 < ((10 : Nat) : Int)) <| .c (ES.emC (connW_ok (q.cons.getD ((i).toNat) default) q pos pos.length (List.replicate pos.length (0 : Int)) hy2) [4, 3] (hp_prunedP_1 q pos i) (by kernel_rfl) (by kernel_rfl)) <| .o 42 (DLe.bool c19) <| .e) [0] (.g g2 <| .e) (by kernel_rfl)
                      · exact TrK.g hX (stopAt 9 sch_prunedP) 26 [2, 8, 9] [2, 4, 3] [] (.g trivial <| .g g0 <| .c (ES.frameB (isDead_ok pos hy1) (hp_prunedP_0 q pos) (by kernel_rfl)) <| .o 18 (DLe.bool c0) <| .g s_prunedP_6 <| .g g1 <| .g g0 <| .o 36 (DLe.int (k := .i64) (eq_of_beq c17)) <| .g (by decide : (0 : Int) ≤ 8 ∧ 8 < ((10 : Nat) : Int)) <| .c (ES.emC (connW_ok (q.cons.getD ((i).toNat) default) q pos pos.length (List.replicate pos.length (0 : Int)) hy2) [4, 3] (hp_prunedP_1 q pos i) (by kernel_rfl) (by kernel_rfl)) <| .o 42 (DLe.bool c19) <| .e) (hself (.l1 y2.2) r h) (by kernel_rfl) (by kernel_rfl)
                    · rcases bifSome h with ⟨c19, h⟩ | ⟨c19, h⟩
                      · obtain ⟨y2, hy2, h⟩ := bindSome h
                        rcases bifSome h with ⟨c21, h⟩ | ⟨c21, h⟩
                        · obtain ⟨g2, h⟩ := guardSome h
                          cases h
                          exact TrK.e hX (stopAt 9 sch_prunedP) 26 [6] [2] [] (.g trivial <| .g g0 <| .c (ES.frameB (isDead_ok pos hy1) (hp_prunedP_0 q pos) (by kernel_rfl)) <| .o 18 (DLe.bool c0) <| .g s_prunedP_6 <| .g g1 <| .g g0 <| .o 36 (DLe.int (k := .i64) (eq_of_beq c19)) <| .g (by decide : (0 : Int) ≤ 9 ∧ 9 < ((10 : Nat) : Int)) <| .c (ES.emC (loopW_ok (q.cons.getD ((i).toNat) default) q pos pos.length (List.replicate pos.length (0 : Int)) hy2) [4, 3] (hp_prunedP_1 q pos i) (by kernel_rfl) (by kernel_rfl)) <| .o 42 (DLe.bool c21) <| .e) [0] (.g g2 <| .e) (by kernel_rfl)
                        · exact TrK.g hX (stopAt 9 sch_prunedP) 26 [2, 8, 9] [2, 4, 3] [] (.g trivial <| .g g0 <| .c (ES.frameB (isDead_ok pos hy1) (hp_prunedP_0 q pos) (by kernel_rfl)) <| .o 18 (DLe.bool c0) <| .g s_prunedP_6 <| .g g1 <| .g g0 <| .o 36 (DLe.int (k := .i64) (eq_of_beq c19)) <| .g (by decide : (0 : Int) ≤ 9 ∧ 9 < ((10 : Nat) : Int)) <| .c (ES.emC (loopW_ok (q.cons.getD ((i).toNat) default) q pos pos.length (List.replicate pos.length (0 : Int)) hy2) [4, 3] (hp_prunedP_1 q pos i) (by kernel_rfl) (by kernel_rfl)) <| .o 42 (DLe.bool c21) <| .e) (hself (.l1 y2.2) r h) (by kernel_rfl) (by kernel_rfl)
                      · cases h


def sch_pruneP : Sch := fun i => match i with
  | _ => .no
def pruneP_l0 (n : Nat) (q : ProbD) (i : Int) (pos : List Int) : Option ((List Int) × Int) :=
  (checkP n q i pos).bind fun y1 =>
   bif (y1 != 0) then
    some (([] : List Int), y1)
   else
    (prunedP n q i pos).bind fun y2 =>
     some (y2, 0)
def pruneP (n : Nat) (q : ProbD) (i : Int) (pos : List Int) : Option ((List Int) × Int) := pruneP_l0 n q i pos
set_option maxRecDepth 100000 in
set_option maxHeartbeats 4000000 in
theorem pruneP_ok {n : Nat} (q : ProbD) (i : Int) (pos : List Int) {r : (List Int) × Int} (h : pruneP n q i pos = some r) : ES Tryd.prog GG 11 [.agg 5 (L1 (probC q)), .int .i64 i, .ints pos] [] (.tup 2 (L1 [.ints r.1, .int .i64 r.2])) [] true := by
  have hX : HX Fence.wide Tryd.prog := ⟨FOk.wide, by kernel_rfl⟩
  refine ES.of_trk Tryd.func11 (by kernel_rfl) (by kernel_rfl) noIter_nil (fun _ => rfl) fun B N => ?_
  unfold pruneP at h
  unfold pruneP_l0 at h
  obtain ⟨y1, hy1, h⟩ := bindSome h
  rcases bifSome h with ⟨c0, h⟩ | ⟨c0, h⟩
  · cases h
    exact TrK.el hX sch_pruneP 15 [6, 7] [] [] (.c (ES.frameB (checkP_ok q i pos hy1) [some (.cells (probC q))] (by kernel_rfl)) <| .o 14 (DLe.bool c0) <| .e) [] .e [.nils, .int .i64 y1] (DLe.tupL (l := [.nils, .int .i64 y1]) (l' := [.ints ([] : List Int), .int .i64 y1]) rfl ⟨DLe.ints_nil, (DLe.refl _), trivial⟩) (by kernel_rfl)
  · obtain ⟨y2, hy2, h⟩ := bindSome h
    cases h
    exact TrK.e hX sch_pruneP 16 [6, 7] [] [] (.c (ES.frameB (checkP_ok q i pos hy1) [some (.cells (probC q))] (by kernel_rfl)) <| .o 14 (DLe.bool c0) <| .c (ES.frameB (prunedP_ok q i pos hy2) [some (.cells (probC q))] (by kernel_rfl)) <| .e) [] .e (by kernel_rfl)


def a_lostP_8 : Prop := SOk (regF Tryd.f14 8) [([0, 1, 2, 3, 4, 5, 6, 7, 8], 9)] [] []
theorem s_lostP_8 : a_lostP_8 := by unfold a_lostP_8 SOk; kernel_rfl
def sch_lostP : Sch := fun i => match i with
  | 8 => .ord [([0, 1, 2, 3, 4, 5, 6, 7, 8], 9)] [] []
  | _ => .no
def hp_lostP_0 (x25 : Int) (pos x9 : List Int) : DH := [some (.cells [.nils]), some (.cells [.int .i64 x25]), some (.iter ((symsI (bits .andNot .i64 (pos.getD ((x25).toNat) 0) (x9.getD ((x25).toNat) 0))).map encI))]
def hp_lostP_1 (o0_0 : Nat) (x25 : Int) (pos x9 : List Int) (o1 : List (Int × Int)) : DH := [some (.cells [.msl 3 2 0 o0_0]), some (.cells [.int .i64 x25]), some (.iter ((symsI (bits .andNot .i64 (pos.getD ((x25).toNat) 0) (x9.getD ((x25).toNat) 0))).map encI)), some (.arr 2 o1.length (rowE iiC o1))]
def hp_lostP_2 (r37s1_0_0 : Nat) (r37s1_1_0 : Int) (r37s1_3 : List (Int × Int)) : DH := [some (.cells [.msl 3 2 0 r37s1_0_0]), some (.cells [.int .i64 r37s1_1_0]), none, some (.arr 2 r37s1_3.length (rowE iiC r37s1_3))]
def hp_lostP_3 (r37s0_0_0 : Nat) (x25 : Int) (r37s0_3 : List (Int × Int)) : DH := [some (.cells [.msl 3 2 0 r37s0_0_0]), some (.cells [.int .i64 x25]), none, some (.arr 2 r37s0_3.length (rowE iiC r37s0_3))]
inductive lostP_b37_1T where
  | s0 (r37s0_0_0 : Nat) (r37s0_3 : List (Int × Int))
def lostP_b37_1_H (pos x9 : List Int) (x25 : Int) : lostP_b37_1T → DH
  | .s0 r37s0_0_0 r37s0_3 => [some (.cells [.msl 3 2 0 r37s0_0_0]), some (.cells [.int .i64 x25]), none, some (.arr 2 r37s0_3.length (rowE iiC r37s0_3))]
def lostP_b37_1_e0 (n : Nat) (pos x9 : List Int) (x25 e37 : Int) (r37s0_0_0 : Nat) (r37s0_3 : List (Int × Int)) : Option lostP_b37_1T :=
  if r37s0_0_0 = r37s0_3.length ∧ r37s0_3.length + ([(x25, e37)] : List (Int × Int)).length ≤ LIM then
   some (.s0 (r37s0_3.length + ([(x25, e37)] : List (Int × Int)).length) (r37s0_3 ++ ([(x25, e37)] : List (Int × Int))))
  else none
def lostP_b37_1_l0 (n : Nat) (pos x9 : List Int) (x25 e37 : Int) : lostP_b37_1T → Option lostP_b37_1T
  | .s0 r37s0_0_0 r37s0_3 => lostP_b37_1_e0 n pos x9 x25 e37 r37s0_0_0 r37s0_3
def lostP_b37_1 (n : Nat) (pos x9 : List Int) (x25 e37 : Int) (s : lostP_b37_1T) : Option lostP_b37_1T := lostP_b37_1_l0 n pos x9 x25 e37 s
set_option maxRecDepth 100000 in
set_option maxHeartbeats 4000000 in
theorem lostP_b37_1_ok (l B : Nat) (N : Yard Tryd.prog GG 3) (n : Nat) (pos x9 : List Int) (x25 e37 : Int) (s : lostP_b37_1T) (r : lostP_b37_1T) (h : lostP_b37_1 n pos x9 x25 e37 s = some r) : TrA Tryd.prog GG (Fence.wide.inRound l) (some B) 3 N (RndQ 3 [] 0 (lostP_b37_1_H pos x9 x25 r)) (rgA Tryd.f14 37) (rgB Tryd.f14 37) ⟨frm 47 [(2, .ints pos), (6, .ref 0 0), (9, .ints x9), (10, .ref 1 0), (24, .int .i64 ((pos.length : Nat) : Int)), (25, .int .i64 x25), (37, .it 2), (38, .int .i64 e37)], lostP_b37_1_H pos x9 x25 s⟩ := by
  have hX : HX (Fence.wide.inRound l) Tryd.prog := ⟨FOk.round l, by kernel_rfl⟩
  unfold lostP_b37_1 at h
  cases s with
  | s0 r37s0_0_0 r37s0_3 =>
    have h : lostP_b37_1_e0 n pos x9 x25 e37 r37s0_0_0 r37s0_3 = some r := h
    unfold lostP_b37_1_e0 at h
    refine TrA.g hX sch_lostP 6 [6, 7, 10, 11] [0, 1, 2, 3] .e (frm 47 [(6, .ref 0 0), (10, .ref 1 0), (11, .int .i64 e37)]) (hp_lostP_3 r37s0_0_0 x25 r37s0_3) (by kernel_rfl) ?_
    intro N
    obtain ⟨⟨b37v1_g0, b37v1_g1⟩, h⟩ := guardSome h
    cases h
    exact TrK.r hX sch_lostP 8 [0, 1, 2, 5] [] (.a 43 4 2 (rows_build (c := iiC) (L := ([(x25, e37)] : List (Int × Int))) (vals := [.agg 2 (L1 [.int .i64 x25, .int .i64 e37])]) rfl ⟨⟨_, rfl, ⟨dle_refl, dle_refl, trivial⟩⟩, trivial⟩) <| .g (And.intro (And.intro (And.intro (Eq.refl 0) (Eq.refl 1)) (oneR iiC ([(x25, e37)] : List (Int × Int)) (([(x25, e37)] : List (Int × Int)).length) 2 fun _ => ⟨rfl, rfl⟩)) (And.intro (And.intro (Eq.refl 0) b37v1_g0) b37v1_g1)) <| .a 44 5 2 (rows_app (enc := (encE iiC)) (L := r37s0_3) (L' := ([(x25, e37)] : List (Int × Int))) rfl rfl fun _ _ _ _ => dle_refl) <| .g trivial <| .e) rfl (by kernel_rfl)


inductive lostP_b37T where
  | s0
  | s1 (r37s1_0_0 : Nat) (r37s1_1_0 : Int) (r37s1_3 : List (Int × Int))
def lostP_b37_H (pos x9 : List Int) (x25 : Int) : lostP_b37T → DH
  | .s0 => [some (.cells [.nils]), some (.cells [.int .i64 x25]), none]
  | .s1 r37s1_0_0 r37s1_1_0 r37s1_3 => [some (.cells [.msl 3 2 0 r37s1_0_0]), some (.cells [.int .i64 r37s1_1_0]), none, some (.arr 2 r37s1_3.length (rowE iiC r37s1_3))]
def lostP_b37_e0 (n : Nat) (pos x9 : List Int) (x25 e37 : Int) : Option lostP_b37T :=
  some (.s1 (([(x25, e37)] : List (Int × Int)).length) x25 ([(x25, e37)] : List (Int × Int)))
def lostP_b37_e1 (n : Nat) (pos x9 : List Int) (x25 e37 : Int) (r37s1_0_0 : Nat) (r37s1_1_0 : Int) (r37s1_3 : List (Int × Int)) : Option lostP_b37T :=
  if r37s1_0_0 = r37s1_3.length ∧ r37s1_3.length + ([(r37s1_1_0, e37)] : List (Int × Int)).length ≤ LIM then
   some (.s1 (r37s1_3.length + ([(r37s1_1_0, e37)] : List (Int × Int)).length) r37s1_1_0 (r37s1_3 ++ ([(r37s1_1_0, e37)] : List (Int × Int))))
  else none
def lostP_b37_l0 (n : Nat) (pos x9 : List Int) (x25 e37 : Int) : lostP_b37T → Option lostP_b37T
  | .s0 => lostP_b37_e0 n pos x9 x25 e37
  | .s1 r37s1_0_0 r37s1_1_0 r37s1_3 => lostP_b37_e1 n pos x9 x25 e37 r37s1_0_0 r37s1_1_0 r37s1_3
def lostP_b37 (n : Nat) (pos x9 : List Int) (x25 e37 : Int) (s : lostP_b37T) : Option lostP_b37T := lostP_b37_l0 n pos x9 x25 e37 s
set_option maxRecDepth 100000 in
set_option maxHeartbeats 4000000 in
theorem lostP_b37_ok (l B : Nat) (N : Yard Tryd.prog GG 3) (n : Nat) (pos x9 : List Int) (x25 e37 : Int) (s : lostP_b37T) (r : lostP_b37T) (h : lostP_b37 n pos x9 x25 e37 s = some r) : TrA Tryd.prog GG (Fence.wide.inRound l) (some B) 3 N (RndQ 3 [] 0 (lostP_b37_H pos x9 x25 r)) (rgA Tryd.f14 37) (rgB Tryd.f14 37) ⟨frm 47 [(2, .ints pos), (6, .ref 0 0), (9, .ints x9), (10, .ref 1 0), (24, .int .i64 ((pos.length : Nat) : Int)), (25, .int .i64 x25), (37, .it 2), (38, .int .i64 e37)], lostP_b37_H pos x9 x25 s⟩ := by
  have hX : HX (Fence.wide.inRound l) Tryd.prog := ⟨FOk.round l, by kernel_rfl⟩
  unfold lostP_b37 at h
  cases s with
  | s0 =>
    have h : lostP_b37_e0 n pos x9 x25 e37 = some r := h
    unfold lostP_b37_e0 at h
    refine TrA.g hX sch_lostP 6 [6, 7, 10, 11] [0, 1, 2] .e (frm 47 [(6, .ref 0 0), (10, .ref 1 0), (11, .int .i64 e37)]) [some (.cells [.nils]), some (.cells [.int .i64 x25]), none] (by kernel_rfl) ?_
    intro N
    cases h
    exact TrK.r hX sch_lostP 8 [0, 1, 2, 4] [] (.a 43 3 2 (rows_build (c := iiC) (L := ([(x25, e37)] : List (Int × Int))) (vals := [.agg 2 (L1 [.int .i64 x25, .int .i64 e37])]) rfl ⟨⟨_, rfl, ⟨dle_refl, dle_refl, trivial⟩⟩, trivial⟩) <| .g (And.intro (And.intro (And.intro (Eq.refl 0) (Eq.refl 1)) (oneR iiC ([(x25, e37)] : List (Int × Int)) (([(x25, e37)] : List (Int × Int)).length) 2 fun _ => ⟨rfl, rfl⟩)) (And.intro (by decide : 0 < 1) (by decide : 1 ≤ LIM))) <| .g trivial <| .e) rfl (by kernel_rfl)
  | s1 r37s1_0_0 r37s1_1_0 r37s1_3 =>
    have h : lostP_b37_e1 n pos x9 x25 e37 r37s1_0_0 r37s1_1_0 r37s1_3 = some r := h
    unfold lostP_b37_e1 at h
    refine TrA.g hX sch_lostP 6 [6, 7, 10, 11] [0, 1, 2, 3] .e (frm 47 [(6, .ref 0 0), (10, .ref 1 0), (11, .int .i64 e37)]) (hp_lostP_2 r37s1_0_0 r37s1_1_0 r37s1_3) (by kernel_rfl) ?_
    intro N
    obtain ⟨⟨b37_g0, b37_g1⟩, h⟩ := guardSome h
    cases h
    exact TrK.r hX sch_lostP 8 [0, 1, 2, 5] [] (.a 43 4 2 (rows_build (c := iiC) (L := ([(r37s1_1_0, e37)] : List (Int × Int))) (vals := [.agg 2 (L1 [.int .i64 r37s1_1_0, .int .i64 e37])]) rfl ⟨⟨_, rfl, ⟨dle_refl, dle_refl, trivial⟩⟩, trivial⟩) <| .g (And.intro (And.intro (And.intro (Eq.refl 0) (Eq.refl 1)) (oneR iiC ([(r37s1_1_0, e37)] : List (Int × Int)) (([(r37s1_1_0, e37)] : List (Int × Int)).length) 2 fun _ => ⟨rfl, rfl⟩)) (And.intro (And.intro (Eq.refl 0) b37_g0) b37_g1)) <| .a 44 5 2 (rows_app (enc := (encE iiC)) (L := r37s1_3) (L' := ([(r37s1_1_0, e37)] : List (Int × Int))) rfl rfl fun _ _ _ _ => dle_refl) <| .g trivial <| .e) rfl (by kernel_rfl)


inductive lostPPt where
  | l1 (x9 : List Int) (x25 : Int)
  | l2 (x9 : List Int) (x25 : Int) (o0_0 : Nat) (o1 : List (Int × Int))
def lostP_l1 (n : Nat) (self : lostPPt → Option ((List (Int × Int)) × Int)) (q : ProbD) (i : Int) (pos : List Int) (x9 : List Int) (x25 : Int) : Option ((List (Int × Int)) × Int) :=
  bif (decide (x25 < ((pos.length : Nat) : Int))) then
   if ((0 : Int) ≤ x25 ∧ x25 < ((pos.length : Nat) : Int)) ∧ ((0 : Int) ≤ x25 ∧ x25 < ((x9.length : Nat) : Int)) ∧ ((0 : Int) ≤ (bits .andNot .i64 (pos.getD ((x25).toNat) 0) (x9.getD ((x25).toNat) 0)) ∧ (bits .andNot .i64 (pos.getD ((x25).toNat) 0) (x9.getD ((x25).toNat) 0)) < 9223372036854775808) then
    (foldO (lostP_b37 n pos x9 x25) (symsI (bits .andNot .i64 (pos.getD ((x25).toNat) 0) (x9.getD ((x25).toNat) 0))) (.s0)).bind fun y1 =>
     match y1 with
     | .s0 =>
      if R64 (x25 + 1) then
       self (.l1 x9 (x25 + 1))
      else none
     | .s1 y1_1_0 y1_1_1 y1_1_2 =>
      if R64 (x25 + 1) then
       self (.l2 x9 (x25 + 1) y1_1_0 y1_1_2)
      else none
   else none
  else
   some (([] : List (Int × Int)), 0)
def lostP_l2 (n : Nat) (self : lostPPt → Option ((List (Int × Int)) × Int)) (q : ProbD) (i : Int) (pos : List Int) (x9 : List Int) (x25 : Int) (o0_0 : Nat) (o1 : List (Int × Int)) : Option ((List (Int × Int)) × Int) :=
  bif (decide (x25 < ((pos.length : Nat) : Int))) then
   if ((0 : Int) ≤ x25 ∧ x25 < ((pos.length : Nat) : Int)) ∧ ((0 : Int) ≤ x25 ∧ x25 < ((x9.length : Nat) : Int)) ∧ ((0 : Int) ≤ (bits .andNot .i64 (pos.getD ((x25).toNat) 0) (x9.getD ((x25).toNat) 0)) ∧ (bits .andNot .i64 (pos.getD ((x25).toNat) 0) (x9.getD ((x25).toNat) 0)) < 9223372036854775808) then
    (foldO (lostP_b37_1 n pos x9 x25) (symsI (bits .andNot .i64 (pos.getD ((x25).toNat) 0) (x9.getD ((x25).toNat) 0))) (.s0 o0_0 o1)).bind fun y1 =>
     match y1 with
     | .s0 y1_0_0 y1_0_1 =>
      if R64 (x25 + 1) then
       self (.l2 x9 (x25 + 1) y1_0_0 y1_0_1)
      else none
   else none
  else
   if o0_0 = o1.length then
    some (o1, 0)
   else none
def lostP_l0 (n : Nat) (self : lostPPt → Option ((List (Int × Int)) × Int)) (q : ProbD) (i : Int) (pos : List Int) : Option ((List (Int × Int)) × Int) :=
  (checkP n q i pos).bind fun y1 =>
   bif (y1 != 0) then
    some (([] : List (Int × Int)), y1)
   else
    (prunedP n q i pos).bind fun y2 =>
     self (.l1 y2 0)
def lostP_m (q : ProbD) (i : Int) (pos : List Int) : Nat → lostPPt → Option ((List (Int × Int)) × Int)
  | 0, _ => none
  | n + 1, .l1 x9 x25 => lostP_l1 n (lostP_m q i pos n) q i pos x9 x25
  | n + 1, .l2 x9 x25 o0_0 o1 => lostP_l2 n (lostP_m q i pos n) q i pos x9 x25 o0_0 o1
def lostP (n : Nat) (q : ProbD) (i : Int) (pos : List Int) : Option ((List (Int × Int)) × Int) := lostP_l0 n (lostP_m q i pos n) q i pos
/-- What the points stand for. -/
def lostP_at (n : Nat) (B : Nat) (N : Yard Tryd.prog GG 0) (q : ProbD) (i : Int) (pos : List Int) (r : (List (Int × Int)) × Int) : lostPPt → Prop
  | .l1 x9 x25 => ∀ m0 : Nat, n ≤ m0 → TrK Tryd.prog GG Fence.wide (some B) 0 N (Fin Tryd.prog Tryd.f14 0 (.tup 2 (L1 [.sl 2 r.1.length (rowE iiC r.1), .int .i64 r.2])) []) (toN m0 (atNC (bodyC Tryd.f14) 0 [])) ⟨frm 47 [(2, .ints pos), (6, .ref 0 0), (9, .ints x9), (24, .int .i64 ((pos.length : Nat) : Int)), (25, .int .i64 x25)], [some (.cells [.nils])]⟩
  | .l2 x9 x25 o0_0 o1 => ∀ m0 : Nat, n ≤ m0 → TrK Tryd.prog GG Fence.wide (some B) 0 N (Fin Tryd.prog Tryd.f14 0 (.tup 2 (L1 [.sl 2 r.1.length (rowE iiC r.1), .int .i64 r.2])) []) (toN m0 (atNC (bodyC Tryd.f14) 0 [])) ⟨frm 47 [(2, .ints pos), (6, .ref 0 0), (9, .ints x9), (24, .int .i64 ((pos.length : Nat) : Int)), (25, .int .i64 x25)], [some (.cells [.msl 1 2 0 o0_0]), some (.arr 2 o1.length (rowE iiC o1))]⟩
set_option maxRecDepth 100000 in
set_option maxHeartbeats 4000000 in
theorem lostP_p1 (n B : Nat) (N : Yard Tryd.prog GG 0) (self : lostPPt → Option ((List (Int × Int)) × Int)) (q : ProbD) (i : Int) (pos : List Int) (hself : ∀ pt r, self pt = some r → lostP_at n B N q i pos r pt) (x9 : List Int) (x25 : Int) (r : (List (Int × Int)) × Int) (h : lostP_l1 n self q i pos x9 x25 = some r) : lostP_at (n + 1) B N q i pos r (.l1 x9 x25) := by
  have hX : HX Fence.wide Tryd.prog := ⟨FOk.wide, by kernel_rfl⟩
  intro m0 hm0
  refine TrK.round hm0 (by kernel_rfl) fun m0 hm0 => ?_
  unfold lostP_l1 at h
  rcases bifSome h with ⟨c0, h⟩ | ⟨c0, h⟩
  · obtain ⟨⟨g0, g1, g2⟩, h⟩ := guardSome h
    obtain ⟨y1, hy1, h⟩ := bindSome h
    refine TrK.gS hX sch_lostP 17 [2, 6, 9, 10, 24, 25, 37, 38] [0, 1, 2] [] (.o 26 (DLe.bool c0) <| .g trivial <| .g s_lostP_8 <| .g g0 <| .g g1 <| .c (symbols_it g2 [some (.cells [.nils]), some (.cells [.int .i64 x25])]) <| .e) [] .e (atT (bodyC Tryd.f14) 37 [m0]) (frm 47 [(2, .ints pos), (6, .ref 0 0), (9, .ints x9), (10, .ref 1 0), (24, .int .i64 ((pos.length : Nat) : Int)), (25, .int .i64 x25), (37, .it 2)]) (hp_lostP_0 x25 pos x9) (by kernel_rfl) (by kernel_rfl) ?_
    refine TrK.rg0 (.inl rfl) 2 37 #[38] encI 3 hy1 (fun l B N e s r hs => lostP_b37_ok l B N n pos x9 x25 e s r hs) (by kernel_rfl) (by kernel_rfl) (by kernel_rfl) (fun _ => rfl) (by kernel_rfl) (by kernel_rfl) (by kernel_rfl) (by kernel_rfl) ?_
    cases y1 with
    | s0 =>
      dsimp only at h
      obtain ⟨g3, h⟩ := guardSome h
      exact TrK.g hX sch_lostP 8 [2, 6, 9, 24, 25, 38] [0] [] (.o 45 (wr64 g3) <| .e) (hself (.l1 x9 (x25 + 1)) r h m0 hm0) (by kernel_rfl) (by kernel_rfl)
    | s1 y1_1_0 y1_1_1 y1_1_2 =>
      dsimp only at h
      obtain ⟨g3, h⟩ := guardSome h
      exact TrK.g hX sch_lostP 8 [2, 6, 9, 24, 25, 38] [0, 3] [] (.o 45 (wr64 g3) <| .e) (hself (.l2 x9 (x25 + 1) y1_1_0 y1_1_2) r h m0 hm0) (by kernel_rfl) (by kernel_rfl)
  · cases h
    exact TrK.el hX sch_lostP 12 [6, 7] [0] [] (.o 26 (DLe.bool c0) <| .g trivial <| .e) [] .e [.nils, .int .i64 0] (DLe.tupL (l := [.nils, .int .i64 0]) (l' := [.sl 2 (([] : List (Int × Int)).length) (rowE iiC ([] : List (Int × Int))), .int .i64 0]) rfl ⟨(DLe.sl_nil _ _), (DLe.refl _), trivial⟩) (by kernel_rfl)
set_option maxRecDepth 100000 in
set_option maxHeartbeats 4000000 in
theorem lostP_p2 (n B : Nat) (N : Yard Tryd.prog GG 0) (self : lostPPt → Option ((List (Int × Int)) × Int)) (q : ProbD) (i : Int) (pos : List Int) (hself : ∀ pt r, self pt = some r → lostP_at n B N q i pos r pt) (x9 : List Int) (x25 : Int) (o0_0 : Nat) (o1 : List (Int × Int)) (r : (List (Int × Int)) × Int) (h : lostP_l2 n self q i pos x9 x25 o0_0 o1 = some r) : lostP_at (n + 1) B N q i pos r (.l2 x9 x25 o0_0 o1) := by
  have hX : HX Fence.wide Tryd.prog := ⟨FOk.wide, by kernel_rfl⟩
  intro m0 hm0
  refine TrK.round hm0 (by kernel_rfl) fun m0 hm0 => ?_
  unfold lostP_l2 at h
  rcases bifSome h with ⟨c0, h⟩ | ⟨c0, h⟩
  · obtain ⟨⟨g0, g1, g2⟩, h⟩ := guardSome h
    obtain ⟨y1, hy1, h⟩ := bindSome h
    refine TrK.gS hX sch_lostP 17 [2, 6, 9, 10, 24, 25, 37, 38] [0, 2, 3, 1] [] (.o 26 (DLe.bool c0) <| .g trivial <| .g s_lostP_8 <| .g g0 <| .g g1 <| .c (symbols_it g2 [some (.cells [.msl 1 2 0 o0_0]), some (.arr 2 o1.length (rowE iiC o1)), some (.cells [.int .i64 x25])]) <| .e) [] .e (atT (bodyC Tryd.f14) 37 [m0]) (frm 47 [(2, .ints pos), (6, .ref 0 0), (9, .ints x9), (10, .ref 1 0), (24, .int .i64 ((pos.length : Nat) : Int)), (25, .int .i64 x25), (37, .it 2)]) (hp_lostP_1 o0_0 x25 pos x9 o1) (by kernel_rfl) (by kernel_rfl) ?_
    refine TrK.rg0 (.inl rfl) 2 37 #[38] encI 3 hy1 (fun l B N e s r hs => lostP_b37_1_ok l B N n pos x9 x25 e s r hs) (by kernel_rfl) (by kernel_rfl) (by kernel_rfl) (fun _ => rfl) (by kernel_rfl) (by kernel_rfl) (by kernel_rfl) (by kernel_rfl) ?_
    cases y1 with
    | s0 y1_0_0 y1_0_1 =>
      dsimp only at h
      obtain ⟨g3, h⟩ := guardSome h
      exact TrK.g hX sch_lostP 8 [2, 6, 9, 24, 25, 38] [0, 3] [] (.o 45 (wr64 g3) <| .e) (hself (.l2 x9 (x25 + 1) y1_0_0 y1_0_1) r h m0 hm0) (by kernel_rfl) (by kernel_rfl)
  · obtain ⟨g0, h⟩ := guardSome h
    cases h
    exact TrK.e hX sch_lostP 12 [6, 7] [0, 1] [] (.o 26 (DLe.bool c0) <| .g trivial <| .e) [1] (.g g0 <| .e) (by kernel_rfl)
theorem lostP_all (B : Nat) (N : Yard Tryd.prog GG 0) (q : ProbD) (i : Int) (pos : List Int) : ∀ (n : Nat) (pt : lostPPt) (r : (List (Int × Int)) × Int), lostP_m q i pos n pt = some r → lostP_at n B N q i pos r pt
  | 0, _, _, h => by cases h
  | n + 1, .l1 x9 x25, r, h => lostP_p1 n B N (lostP_m q i pos n) q i pos (lostP_all B N q i pos n) x9 x25 r h
  | n + 1, .l2 x9 x25 o0_0 o1, r, h => lostP_p2 n B N (lostP_m q i pos n) q i pos (lostP_all B N q i pos n) x9 x25 o0_0 o1 r h
set_option maxRecDepth 100000 in
set_option maxHeartbeats 4000000 in
theorem lostP_ok {n : Nat} (q : ProbD) (i : Int) (pos : List Int) {r : (List (Int × Int)) × Int} (h : lostP n q i pos = some r) : ES Tryd.prog GG 14 [.agg 5 (L1 (probC q)), .int .i64 i, .ints pos] [] (.tup 2 (L1 [.sl 2 r.1.length (rowE iiC r.1), .int .i64 r.2])) [] true := by
  have hX : HX Fence.wide Tryd.prog := ⟨FOk.wide, by kernel_rfl⟩
  refine ES.of_trk Tryd.func14 (by kernel_rfl) (by kernel_rfl) noIter_nil (fun _ => rfl) fun B N => ?_
  have hself := lostP_all B N q i pos n
  unfold lostP at h
  generalize lostP_m q i pos n = self at h hself
  unfold lostP_l0 at h
  obtain ⟨y1, hy1, h⟩ := bindSome h
  rcases bifSome h with ⟨c0, h⟩ | ⟨c0, h⟩
  · cases h
    exact TrK.el hX sch_lostP 15 [6, 7] [1] [] (.c (ES.frameB (checkP_ok q i pos hy1) [some (.cells (probC q)), some (.cells [.nils])] (by kernel_rfl)) <| .o 17 (DLe.bool c0) <| .g trivial <| .e) [] .e [.nils, .int .i64 y1] (DLe.tupL (l := [.nils, .int .i64 y1]) (l' := [.sl 2 (([] : List (Int × Int)).length) (rowE iiC ([] : List (Int × Int))), .int .i64 y1]) rfl ⟨(DLe.sl_nil _ _), (DLe.refl _), trivial⟩) (by kernel_rfl)
  · obtain ⟨y2, hy2, h⟩ := bindSome h
    exact TrK.g hX sch_lostP 20 [2, 6, 9, 24, 25, 38] [1] [] (.c (ES.frameB (checkP_ok q i pos hy1) [some (.cells (probC q)), some (.cells [.nils])] (by kernel_rfl)) <| .o 17 (DLe.bool c0) <| .c (ES.frameB (prunedP_ok q i pos hy2) [some (.cells (probC q)), some (.cells [.nils])] (by kernel_rfl)) <| .e) (TrK.enter n (by kernel_rfl) (hself (.l1 y2 0) r h n (Nat.le_refl _))) (by kernel_rfl) (by kernel_rfl)


def sch_becomes : Sch := fun i => match i with
  | _ => .no
def becomes_l0 (n : Nat) (q : ProbD) (pos want : List Int) : Option Bool :=
  (pruneP n q 0 pos).bind fun y1 =>
   bif (y1.2 == 0) then
    (same n y1.1 want).bind fun y2 =>
     some y2
   else
    some false
def becomes (n : Nat) (q : ProbD) (pos want : List Int) : Option Bool := becomes_l0 n q pos want
set_option maxRecDepth 100000 in
set_option maxHeartbeats 4000000 in
theorem becomes_ok {n : Nat} (q : ProbD) (pos want : List Int) {r : Bool} (h : becomes n q pos want = some r) : ES Tryd.prog GG 20 [.agg 5 (L1 (probC q)), .ints pos, .ints want] [] (.bool r) [] true := by
  have hX : HX Fence.wide Tryd.prog := ⟨FOk.wide, by kernel_rfl⟩
  refine ES.of_trk Tryd.func20 (by kernel_rfl) (by kernel_rfl) noIter_nil (fun _ => rfl) fun B N => ?_
  unfold becomes at h
  unfold becomes_l0 at h
  obtain ⟨y1, hy1, h⟩ := bindSome h
  rcases bifSome h with ⟨c0, h⟩ | ⟨c0, h⟩
  · obtain ⟨y2, hy2, h⟩ := bindSome h
    obtain rfl := Option.some.inj h
    exact TrK.e hX sch_becomes 11 [6] [] [] (.c (ES.frameB (pruneP_ok q 0 pos hy1) [some (.cells (probC q))] (by kernel_rfl)) <| .o 16 (DLe.bool c0) <| .c (ES.frameB (same_ok y1.1 want hy2) [some (.cells (probC q))] (by kernel_rfl)) <| .e) [] .e (by kernel_rfl)
  · obtain rfl := Option.some.inj h
    exact TrK.e hX sch_becomes 11 [6] [] [] (.c (ES.frameB (pruneP_ok q 0 pos hy1) [some (.cells (probC q))] (by kernel_rfl)) <| .o 16 (DLe.bool c0) <| .e) [] .e (by kernel_rfl)


end Go.Proofs.YtekkngkphejfcaaDoor
