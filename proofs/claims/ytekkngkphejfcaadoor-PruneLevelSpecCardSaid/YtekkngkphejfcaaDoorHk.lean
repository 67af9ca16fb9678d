/- Functions read off the code: graphs.Splits. -/
import Derived.Test.YtekkngkphejfcaaDoorHj
namespace Go.Proofs.YtekkngkphejfcaaDoor
open Go.RowKit

def sch_without : Sch := fun i => match i with
  | _ => .no
def without_l0 (n : Nat) (n_ : Int) (inn : List Bool) : Option ((List Bool)) :=
  (cloneB n inn).bind fun y1 =>
   if ((0 : Int) ≤ n_ ∧ n_ < ((y1.length : Nat) : Int)) ∧ 0 + ((n_).toNat) < y1.length then
    if y1.length = (y1.set (0 + ((n_).toNat)) false).length then
     some (y1.set (0 + ((n_).toNat)) false)
    else none
   else none
def without (n : Nat) (n_ : Int) (inn : List Bool) : Option ((List Bool)) := without_l0 n n_ inn
set_option maxRecDepth 100000 in
set_option maxHeartbeats 4000000 in
theorem without_ok {n : Nat} (n_ : Int) (inn : List Bool) {r : (List Bool)} (h : without n n_ inn = some r) : ES Tryd.prog GG 78 [.int .i64 n_, .fp 1 (L1 [.bools inn])] [] (.msl 0 1 0 r.length) [some (.bools r)] true := by
  have hX : HX Fence.wide Tryd.prog := ⟨FOk.wide, by kernel_rfl⟩
  refine ES.of_trk Tryd.func78 (by kernel_rfl) (by kernel_rfl) (noIterB (by kernel_rfl)) (fun _ => rfl) fun B N => ?_
  unfold without at h
  unfold without_l0 at h
  obtain ⟨y1, hy1, h⟩ := bindSome h
  obtain ⟨⟨g0, g1⟩, h⟩ := guardSome h
  obtain ⟨g2, h⟩ := guardSome h
  cases h
  exact TrK.el hX sch_without 13 [3] [0] [] (.c (ES.snapNew (ds := [.bools inn]) (cloneB_ok inn hy1) [] (allSnap_plain (by kernel_rfl)) rfl) <| .g g0 <| .g g1 <| .e) [] .e [.msl 0 1 0 y1.length] (DLe.mslN g2) (by kernel_rfl)


def a_splits_16 : Prop := SOk (regF Tryd.f68 16) [] [0, 1, 2, 3, 4, 5, 6] []
theorem s_splits_16 : a_splits_16 := by unfold a_splits_16 SOk; kernel_rfl
def sch_splits : Sch := fun i => match i with
  | 16 => .ord [] [0, 1, 2, 3, 4, 5, 6] []
  | _ => .no
def hp_splits_0 (in_ some_ : List Bool) (at_ : Int) : DH := [some (.cells [.bools in_]), some (.cells [.bools some_]), some (.cells [.int .i64 at_]), some (.cells [.bool false]), none]
def hp_splits_1 (in_ some_ : List Bool) (at_ : Int) : DH := [some (.cells [.bools in_]), some (.cells [.bools some_]), some (.cells [.int .i64 at_]), some (.cells [.bool false]), none, none]
def hp_splits_2 (in_ some_ : List Bool) (at_ : Int) (y3 : (List Int) × Int) : DH := [some (.cells [.bools in_]), some (.cells [.bools some_]), some (.cells [.int .i64 at_]), some (.cells [.bool false]), none, none, some (.cells [.ints y3.1]), some (.cells [.int .i64 0])]
def hp_splits_3 (some_ : List Bool) (at_ : Int) (y3 : (List Int) × Int) (y4 : List Int) : DH := [some (.cells [.bools some_]), some (.cells [.int .i64 at_]), some (.cells [.bool false]), some (.cells [.ints y3.1]), some (.cells [.int .i64 0]), some (.iter ((y4).map encI))]
def hp_splits_4 (some_ : List Bool) (at_ : Int) (r48s0_2_0 : Bool) (y3 : (List Int) × Int) (r48s0_4_0 : Int) : DH := [some (.cells [.bools some_]), some (.cells [.int .i64 at_]), some (.cells [.bool r48s0_2_0]), some (.cells [.ints y3.1]), some (.cells [.int .i64 r48s0_4_0]), none]
inductive splits_b48T where
  | s0 (r48s0_2_0 : Bool) (r48s0_4_0 : Int)
def splits_b48_H (some_ : List Bool) (at_ : Int) (y3 : (List Int) × Int) : splits_b48T → DH
  | .s0 r48s0_2_0 r48s0_4_0 => [some (.cells [.bools some_]), some (.cells [.int .i64 at_]), some (.cells [.bool r48s0_2_0]), some (.cells [.ints y3.1]), some (.cells [.int .i64 r48s0_4_0]), none]
def splits_b48_e0 (n : Nat) (some_ : List Bool) (at_ : Int) (y3 : (List Int) × Int) (e48 : Int) (r48s0_2_0 : Bool) (r48s0_4_0 : Int) : Option (splits_b48T × Nat) :=
  bif (e48 == at_) then
   some (.s0 r48s0_2_0 r48s0_4_0, 0)
  else
   if (0 : Int) ≤ e48 ∧ e48 < ((some_.length : Nat) : Int) then
    bif (!(some_.getD ((e48).toNat) false)) then
     some (.s0 r48s0_2_0 r48s0_4_0, 0)
    else
     bif (r48s0_4_0 == 0) then
      if (0 : Int) ≤ e48 ∧ e48 < ((y3.1.length : Nat) : Int) then
       some (.s0 r48s0_2_0 (y3.1.getD ((e48).toNat) 0), 0)
      else none
     else
      if (0 : Int) ≤ e48 ∧ e48 < ((y3.1.length : Nat) : Int) then
       bif ((y3.1.getD ((e48).toNat) 0) != r48s0_4_0) then
        some (.s0 true r48s0_4_0, 1)
       else
        some (.s0 r48s0_2_0 r48s0_4_0, 0)
      else none
   else none
def splits_b48_l0 (n : Nat) (some_ : List Bool) (at_ : Int) (y3 : (List Int) × Int) (e48 : Int) : splits_b48T → Option (splits_b48T × Nat)
  | .s0 r48s0_2_0 r48s0_4_0 => splits_b48_e0 n some_ at_ y3 e48 r48s0_2_0 r48s0_4_0
def splits_b48 (n : Nat) (some_ : List Bool) (at_ : Int) (y3 : (List Int) × Int) (e48 : Int) (s : splits_b48T) : Option (splits_b48T × Nat) := splits_b48_l0 n some_ at_ y3 e48 s
set_option maxRecDepth 100000 in
set_option maxHeartbeats 4000000 in
theorem splits_b48_ok (l B : Nat) (N : Yard Tryd.prog GG 6) (n : Nat) (some_ : List Bool) (at_ : Int) (y3 : (List Int) × Int) (e48 : Int) (s : splits_b48T) (r : splits_b48T × Nat) (h : splits_b48 n some_ at_ y3 e48 s = some r) : TrA Tryd.prog GG (Fence.wide.inRound l) (some B) 6 N (RndQ 6 [.exit 0] r.2 (splits_b48_H some_ at_ y3 r.1)) (rgA Tryd.f68 48) (rgB Tryd.f68 48) ⟨frm 76 [(6, .ref 0 0), (7, .ref 1 0), (8, .ref 2 0), (11, .ref 3 0), (13, .ref 4 0), (48, .it 5), (49, .int .i64 e48)], splits_b48_H some_ at_ y3 s⟩ := by
  have hX : HX (Fence.wide.inRound l) Tryd.prog := ⟨FOk.round l, by kernel_rfl⟩
  unfold splits_b48 at h
  cases s with
  | s0 r48s0_2_0 r48s0_4_0 =>
    have h : splits_b48_e0 n some_ at_ y3 e48 r48s0_2_0 r48s0_4_0 = some r := h
    unfold splits_b48_e0 at h
    refine TrA.g hX sch_splits 6 [6, 7, 8, 9, 11, 13, 14] [0, 1, 2, 3, 4, 5] .e (frm 76 [(6, .ref 0 0), (7, .ref 1 0), (8, .ref 2 0), (11, .ref 3 0), (13, .ref 4 0), (14, .int .i64 e48)]) (hp_splits_4 some_ at_ r48s0_2_0 y3 r48s0_4_0) (by kernel_rfl) ?_
    intro N
    rcases bifSome h with ⟨b48_c0, h⟩ | ⟨b48_c0, h⟩
    · cases h
      exact TrK.r hX sch_splits 13 [0, 1, 2, 3, 4, 5] [] (.o 53 (DLe.bool b48_c0) <| .e) rfl (by kernel_rfl)
    · obtain ⟨b48_g0, h⟩ := guardSome h
      rcases bifSome h with ⟨b48_c1, h⟩ | ⟨b48_c1, h⟩
      · cases h
        exact TrK.r hX sch_splits 13 [0, 1, 2, 3, 4, 5] [] (.o 53 (DLe.bool b48_c0) <| .g b48_g0 <| .o 59 (DLe.bool b48_c1) <| .e) rfl (by kernel_rfl)
      · rcases bifSome h with ⟨b48_c2, h⟩ | ⟨b48_c2, h⟩
        · obtain ⟨b48_g1, h⟩ := guardSome h
          cases h
          exact TrK.r hX sch_splits 16 [0, 1, 2, 3, 4, 5] [] (.o 53 (DLe.bool b48_c0) <| .g b48_g0 <| .o 59 (DLe.bool b48_c1) <| .o 63 (DLe.bool b48_c2) <| .g b48_g1 <| .g trivial <| .e) rfl (by kernel_rfl)
        · obtain ⟨b48_g1, h⟩ := guardSome h
          rcases bifSome h with ⟨b48_c3, h⟩ | ⟨b48_c3, h⟩
          · cases h
            exact TrK.r hX sch_splits 18 [0, 1, 2, 3, 4, 5] [] (.o 53 (DLe.bool b48_c0) <| .g b48_g0 <| .o 59 (DLe.bool b48_c1) <| .o 63 (DLe.bool b48_c2) <| .g s_splits_16 <| .g b48_g1 <| .o 74 (DLe.bool b48_c3) <| .g trivial <| .e) rfl (by kernel_rfl)
          · cases h
            exact TrK.r hX sch_splits 19 [0, 1, 2, 3, 4, 5] [] (.o 53 (DLe.bool b48_c0) <| .g b48_g0 <| .o 59 (DLe.bool b48_c1) <| .o 63 (DLe.bool b48_c2) <| .g s_splits_16 <| .g b48_g1 <| .o 74 (DLe.bool b48_c3) <| .e) rfl (by kernel_rfl)


def splits_l0 (n : Nat) (g_ : List (List Int)) (in_ some_ : List Bool) (at_ : Int) : Option (Bool × Int) :=
  (gvalid n g_ ([in_, some_] : List (List Bool))).bind fun y1 =>
   bif (y1 != 0) then
    some (false, y1)
   else
    bif (decide (at_ < 0)) then
     some (false, 1)
    else
     bif (decide (at_ ≥ ((g_.length : Nat) : Int))) then
      some (false, 1)
     else
      if (0 : Int) ≤ at_ ∧ at_ < ((in_.length : Nat) : Int) then
       bif (!(in_.getD ((at_).toNat) false)) then
        some (false, 0)
       else
        (without n at_ in_).bind fun y2 =>
         (parts n g_ y2).bind fun y3 =>
          (reach n g_ at_ in_).bind fun y4 =>
           (foldX (splits_b48 n some_ at_ y3) y4 (.s0 false 0)).bind fun y5 =>
            bif y5.2 == 0 then
             match y5.1 with
             | .s0 y5_0_0 y5_0_1 =>
              some (y5_0_0, 0)
            else
             bif y5.2 == 1 then
              match y5.1 with
              | .s0 y5_0_0 y5_0_1 =>
               some (y5_0_0, 0)
             else
              none
      else none
def splits (n : Nat) (g_ : List (List Int)) (in_ some_ : List Bool) (at_ : Int) : Option (Bool × Int) := splits_l0 n g_ in_ some_ at_
set_option maxRecDepth 100000 in
set_option maxHeartbeats 4000000 in
theorem splits_ok {n : Nat} (g_ : List (List Int)) (in_ some_ : List Bool) (at_ : Int) {r : Bool × Int} (h : splits n g_ in_ some_ at_ = some r) : ES Tryd.prog GG 68 [.sl 1 g_.length (rowE intsC g_), .bools in_, .bools some_, .int .i64 at_] [] (.tup 2 (L1 [.bool r.1, .int .i64 r.2])) [] true := by
  have hX : HX Fence.wide Tryd.prog := ⟨FOk.wide, by kernel_rfl⟩
  refine ES.of_trk Tryd.func68 (by kernel_rfl) (by kernel_rfl) noIter_nil (fun _ => rfl) fun B N => ?_
  unfold splits at h
  unfold splits_l0 at h
  obtain ⟨y1, hy1, h⟩ := bindSome h
  rcases bifSome h with ⟨c0, h⟩ | ⟨c0, h⟩
  · cases h
    exact TrK.e hX sch_splits 16 [8, 9] [3] [] (.a 18 4 1 (rows_build (c := boolsC) (L := ([in_, some_] : List (List Bool))) (vals := [.bools in_, .bools some_]) rfl ⟨⟨_, rfl, ⟨dle_refl, trivial⟩⟩, ⟨_, rfl, ⟨dle_refl, trivial⟩⟩, trivial⟩) <| .z 18 4 <| .g (Eq.refl 2) <| .c (ES.frameB (gvalid_ok g_ ([in_, some_] : List (List Bool)) hy1) (hp_splits_0 in_ some_ at_) (by kernel_rfl)) <| .o 21 (DLe.bool c0) <| .g trivial <| .e) [] .e (by kernel_rfl)
  · rcases bifSome h with ⟨c1, h⟩ | ⟨c1, h⟩
    · cases h
      exact TrK.e hX sch_splits 21 [8, 9] [3] [] (.a 18 4 1 (rows_build (c := boolsC) (L := ([in_, some_] : List (List Bool))) (vals := [.bools in_, .bools some_]) rfl ⟨⟨_, rfl, ⟨dle_refl, trivial⟩⟩, ⟨_, rfl, ⟨dle_refl, trivial⟩⟩, trivial⟩) <| .z 18 4 <| .g (Eq.refl 2) <| .c (ES.frameB (gvalid_ok g_ ([in_, some_] : List (List Bool)) hy1) (hp_splits_0 in_ some_ at_) (by kernel_rfl)) <| .o 21 (DLe.bool c0) <| .o 24 (DLe.bool c1) <| .g trivial <| .e) [] .e (by kernel_rfl)
    · rcases bifSome h with ⟨c2, h⟩ | ⟨c2, h⟩
      · cases h
        exact TrK.e hX sch_splits 21 [8, 9] [3] [] (.a 18 4 1 (rows_build (c := boolsC) (L := ([in_, some_] : List (List Bool))) (vals := [.bools in_, .bools some_]) rfl ⟨⟨_, rfl, ⟨dle_refl, trivial⟩⟩, ⟨_, rfl, ⟨dle_refl, trivial⟩⟩, trivial⟩) <| .z 18 4 <| .g (Eq.refl 2) <| .c (ES.frameB (gvalid_ok g_ ([in_, some_] : List (List Bool)) hy1) (hp_splits_0 in_ some_ at_) (by kernel_rfl)) <| .o 21 (DLe.bool c0) <| .o 24 (DLe.bool c1) <| .o 29 (DLe.bool c2) <| .g trivial <| .e) [] .e (by kernel_rfl)
      · obtain ⟨g0, h⟩ := guardSome h
        rcases bifSome h with ⟨c3, h⟩ | ⟨c3, h⟩
        · cases h
          exact TrK.e hX sch_splits 26 [8, 9] [3] [] (.a 18 4 1 (rows_build (c := boolsC) (L := ([in_, some_] : List (List Bool))) (vals := [.bools in_, .bools some_]) rfl ⟨⟨_, rfl, ⟨dle_refl, trivial⟩⟩, ⟨_, rfl, ⟨dle_refl, trivial⟩⟩, trivial⟩) <| .z 18 4 <| .g (Eq.refl 2) <| .c (ES.frameB (gvalid_ok g_ ([in_, some_] : List (List Bool)) hy1) (hp_splits_0 in_ some_ at_) (by kernel_rfl)) <| .o 21 (DLe.bool c0) <| .o 24 (DLe.bool c1) <| .o 29 (DLe.bool c2) <| .g g0 <| .o 35 (DLe.bool c3) <| .g trivial <| .e) [] .e (by kernel_rfl)
        · obtain ⟨y2, hy2, h⟩ := bindSome h
          obtain ⟨y3, hy3, h⟩ := bindSome h
          obtain ⟨y4, hy4, h⟩ := bindSome h
          obtain ⟨y5, hy5, h⟩ := bindSome h
          refine TrK.gS hX sch_splits 37 [6, 7, 8, 11, 13, 48, 49] [1, 2, 3, 6, 7, 8] [] (.a 18 4 1 (rows_build (c := boolsC) (L := ([in_, some_] : List (List Bool))) (vals := [.bools in_, .bools some_]) rfl ⟨⟨_, rfl, ⟨dle_refl, trivial⟩⟩, ⟨_, rfl, ⟨dle_refl, trivial⟩⟩, trivial⟩) <| .z 18 4 <| .g (Eq.refl 2) <| .c (ES.frameB (gvalid_ok g_ ([in_, some_] : List (List Bool)) hy1) (hp_splits_0 in_ some_ at_) (by kernel_rfl)) <| .o 21 (DLe.bool c0) <| .o 24 (DLe.bool c1) <| .o 29 (DLe.bool c2) <| .g g0 <| .o 35 (DLe.bool c3) <| .c (ES.snapNew (ds := [.int .i64 at_, .ref 0 0]) (without_ok at_ in_ hy2) (hp_splits_0 in_ some_ at_) ⟨Snap.plain (by kernel_rfl), (Snap.refL (l := [.bools in_]) (l0 := [.bools in_]) rfl ⟨Snap.plain (by kernel_rfl), trivial⟩), trivial⟩ rfl) <| .z 41 5 <| .g (Eq.refl y2.length) <| .c (ES.frameB (parts_ok g_ y2 hy3) (hp_splits_1 in_ some_ at_) (by kernel_rfl)) <| .g trivial <| .g trivial <| .c (reachM_iter hy4 (hp_splits_2 in_ some_ at_ y3)) <| .e) [] .e (atT (bodyC Tryd.f68) 48 []) (frm 76 [(6, .ref 0 0), (7, .ref 1 0), (8, .ref 2 0), (11, .ref 3 0), (13, .ref 4 0), (48, .it 5)]) (hp_splits_3 some_ at_ y3 y4) (by kernel_rfl) (by kernel_rfl) ?_
          refine TrK.rg (.inl rfl) [.exit 0] (by kernel_rfl) 5 48 #[49] encI 6 hy5 (fun l B N e s r hs => splits_b48_ok l B N n some_ at_ y3 e s r hs) (by kernel_rfl) (by kernel_rfl) (by kernel_rfl) (fun _ => rfl) (by kernel_rfl) (by kernel_rfl) (by kernel_rfl) (by kernel_rfl) ?_
          intro e he
          rcases bifSome h with ⟨y5q, h⟩ | ⟨y5q, h⟩
          · rw [eq_of_beq y5q] at he
            cases he
            revert h
            cases y5.1 with
            | s0 y5_0_0 y5_0_1 =>
              intro h
              dsimp only at h
              cases h
              exact TrK.e hX sch_splits 8 [8, 9] [2] [] (.g trivial <| .e) [] .e (by kernel_rfl)
          · rcases bifSome h with ⟨y5q, h⟩ | ⟨y5q, h⟩
            · rw [eq_of_beq y5q] at he
              cases he
              refine TrE.exitTo (by kernel_rfl) ?_
              revert h
              cases y5.1 with
              | s0 y5_0_0 y5_0_1 =>
                intro h
                dsimp only at h
                cases h
                exact TrK.e hX sch_splits 7 [8, 9] [2] [] (.g trivial <| .e) [] .e (by kernel_rfl)
            · cases h


end Go.Proofs.YtekkngkphejfcaaDoor
