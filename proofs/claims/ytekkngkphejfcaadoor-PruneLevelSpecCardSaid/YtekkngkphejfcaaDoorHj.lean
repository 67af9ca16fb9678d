/- Functions read off the code: graphs, components. -/
import Derived.Test.YtekkngkphejfcaaDoorDsort
import Derived.Test.YtekkngkphejfcaaDoorHi
namespace Go.Proofs.YtekkngkphejfcaaDoor
open Go.RowKit

def sch_appendSeq : Sch := fun i => match i with
  | _ => .no
inductive appendSeq_b6T where
  | s0
  | s1 (r6s1_1_0 : Nat) (r6s1_2 : List Int)
def appendSeq_b6_H : appendSeq_b6T → DH
  | .s0 => [none, some (.cells [.nils])]
  | .s1 r6s1_1_0 r6s1_2 => [none, some (.cells [.msl 2 1 0 r6s1_1_0]), some (.ints r6s1_2)]
def appendSeq_b6_e0 (n : Nat) (e6 : Int) : Option appendSeq_b6T :=
  if (0 = 0 ∧ 1 = ([e6] : List Int).length) ∧ 0 < ([e6] : List Int).length ∧ ([e6] : List Int).length ≤ LIM then
   some (.s1 (([e6] : List Int).length) ([e6] : List Int))
  else none
def appendSeq_b6_e1 (n : Nat) (e6 : Int) (r6s1_1_0 : Nat) (r6s1_2 : List Int) : Option appendSeq_b6T :=
  if (0 = 0 ∧ 1 = ([e6] : List Int).length) ∧ (0 = 0 ∧ r6s1_1_0 = r6s1_2.length) ∧ r6s1_2.length + ([e6] : List Int).length ≤ LIM then
   some (.s1 (r6s1_2.length + ([e6] : List Int).length) (r6s1_2 ++ ([e6] : List Int)))
  else none
def appendSeq_b6_l0 (n : Nat) (e6 : Int) : appendSeq_b6T → Option appendSeq_b6T
  | .s0 => appendSeq_b6_e0 n e6
  | .s1 r6s1_1_0 r6s1_2 => appendSeq_b6_e1 n e6 r6s1_1_0 r6s1_2
def appendSeq_b6 (n : Nat) (e6 : Int) (s : appendSeq_b6T) : Option appendSeq_b6T := appendSeq_b6_l0 n e6 s
set_option maxRecDepth 100000 in
set_option maxHeartbeats 4000000 in
theorem appendSeq_b6_ok (l B : Nat) (N : Yard Tryd.prog GG 2) (n : Nat) (e6 : Int) (s : appendSeq_b6T) (r : appendSeq_b6T) (h : appendSeq_b6 n e6 s = some r) : TrA Tryd.prog GG (Fence.wide.inRound l) (some B) 2 N (RndQ 2 [] 0 (appendSeq_b6_H r)) (rgA Tryd.f85 6) (rgB Tryd.f85 6) ⟨frm 13 [(2, .ref 1 0), (6, .it 0), (7, .int .i64 e6)], appendSeq_b6_H s⟩ := by
  have hX : HX (Fence.wide.inRound l) Tryd.prog := ⟨FOk.round l, by kernel_rfl⟩
  unfold appendSeq_b6 at h
  cases s with
  | s0 =>
    have h : appendSeq_b6_e0 n e6 = some r := h
    unfold appendSeq_b6_e0 at h
    refine TrA.g hX sch_appendSeq 6 [2, 4, 5] [0, 1] .e (frm 13 [(2, .ref 1 0), (5, .int .i64 e6)]) [none, some (.cells [.nils])] (by kernel_rfl) ?_
    intro N
    obtain ⟨b6_g0, h⟩ := guardSome h
    cases h
    exact TrK.r hX sch_appendSeq 8 [0, 1, 3] [] (.g b6_g0 <| .g trivial <| .e) rfl (by kernel_rfl)
  | s1 r6s1_1_0 r6s1_2 =>
    have h : appendSeq_b6_e1 n e6 r6s1_1_0 r6s1_2 = some r := h
    unfold appendSeq_b6_e1 at h
    refine TrA.g hX sch_appendSeq 6 [2, 4, 5] [0, 1, 2] .e (frm 13 [(2, .ref 1 0), (5, .int .i64 e6)]) [none, some (.cells [.msl 2 1 0 r6s1_1_0]), some (.ints r6s1_2)] (by kernel_rfl) ?_
    intro N
    obtain ⟨b6_g0, h⟩ := guardSome h
    cases h
    exact TrK.r hX sch_appendSeq 8 [0, 1, 4] [] (.g b6_g0 <| .g trivial <| .e) rfl (by kernel_rfl)


def appendSeq_l0 (n : Nat) (l : List Int) : Option ((List Int)) :=
  (foldO (appendSeq_b6 n) l (.s0)).bind fun y1 =>
   match y1 with
   | .s0 =>
    none
   | .s1 y1_1_0 y1_1_1 =>
    if y1_1_0 = y1_1_1.length then
     some y1_1_1
    else none
def appendSeq (n : Nat) (l : List Int) : Option ((List Int)) := appendSeq_l0 n l
set_option maxRecDepth 100000 in
set_option maxHeartbeats 4000000 in
theorem appendSeq_ok {n : Nat} (l : List Int) {r : (List Int)} (h : appendSeq n l = some r) : ES Tryd.prog GG 85 [.nils, .it 0] [some (.iter ((l).map encI))] (.msl 1 1 0 r.length) [none, some (.ints r)] false := by
  have hX : HX Fence.wide Tryd.prog := ⟨FOk.wide, by kernel_rfl⟩
  refine ES.of_trk Tryd.func85 (by kernel_rfl) (by kernel_rfl) (noIterB (by kernel_rfl)) (fun e => by cases e) fun B N => ?_
  unfold appendSeq at h
  unfold appendSeq_l0 at h
  obtain ⟨y1, hy1, h⟩ := bindSome h
  refine TrK.gS hX sch_appendSeq 11 [2, 6, 7] [0, 1] [] .e [] .e (atT (bodyC Tryd.f85) 6 []) (frm 13 [(2, .ref 1 0), (6, .it 0)]) [some (.iter ((l).map encI)), some (.cells [.nils])] (by kernel_rfl) (by kernel_rfl) ?_
  refine TrK.rg0 (.inl rfl) 0 6 #[7] encI 2 hy1 (fun l B N e s r hs => appendSeq_b6_ok l B N n e s r hs) (by kernel_rfl) (by kernel_rfl) (by kernel_rfl) (fun _ => rfl) (by kernel_rfl) (by kernel_rfl) (by kernel_rfl) (by kernel_rfl) ?_
  cases y1 with
  | s0 =>
    dsimp only at h
    cases h
  | s1 y1_1_0 y1_1_1 =>
    dsimp only at h
    obtain ⟨g0, h⟩ := guardSome h
    obtain rfl := Option.some.inj h
    exact TrK.el hX sch_appendSeq 8 [4] [0, 2] [] .e [] .e [.msl 1 1 0 y1_1_0] (DLe.mslN g0) (by kernel_rfl)


def sch_collect : Sch := fun i => match i with
  | _ => .no
def collect_l0 (n : Nat) (l : List Int) : Option ((List Int)) :=
  (appendSeq n l).bind fun y1 =>
   some y1
def collect (n : Nat) (l : List Int) : Option ((List Int)) := collect_l0 n l
set_option maxRecDepth 100000 in
set_option maxHeartbeats 4000000 in
theorem collect_ok {n : Nat} (l : List Int) {r : (List Int)} (h : collect n l = some r) : ES Tryd.prog GG 83 [.it 0] [some (.iter ((l).map encI))] (.msl 1 1 0 r.length) [none, some (.ints r)] false := by
  have hX : HX Fence.wide Tryd.prog := ⟨FOk.wide, by kernel_rfl⟩
  refine ES.of_trk Tryd.func83 (by kernel_rfl) (by kernel_rfl) (noIterB (by kernel_rfl)) (fun e => by cases e) fun B N => ?_
  unfold collect at h
  unfold collect_l0 at h
  obtain ⟨y1, hy1, h⟩ := bindSome h
  obtain rfl := Option.some.inj h
  exact TrK.el hX sch_collect 9 [2] [0, 1] [] (.c (ES.emC (appendSeq_ok l hy1) [0] [some (.iter ((l).map encI))] (by kernel_rfl) (by kernel_rfl)) <| .e) [] .e [.msl 1 1 0 y1.length] (DLe.mslN rfl) (by kernel_rfl)



def sch_sorted : Sch := fun i => match i with
  | _ => .no
def sorted_l0 (n : Nat) (l : List Int) : Option ((List Int)) :=
  (collect n l).bind fun y1 =>
   if y1.length ≤ LIM then
    if y1.length = (sortI y1).length then
     some (sortI y1)
    else none
   else none
def sorted (n : Nat) (l : List Int) : Option ((List Int)) := sorted_l0 n l
set_option maxRecDepth 100000 in
set_option maxHeartbeats 4000000 in
theorem sorted_ok {n : Nat} (l : List Int) {r : (List Int)} (h : sorted n l = some r) : ES Tryd.prog GG 81 [.it 0] [some (.iter ((l).map encI))] (.msl 1 1 0 r.length) [none, some (.ints r)] false := by
  have hX : HX Fence.wide Tryd.prog := ⟨FOk.wide, by kernel_rfl⟩
  refine ES.of_trk Tryd.func81 (by kernel_rfl) (by kernel_rfl) (noIterB (by kernel_rfl)) (fun e => by cases e) fun B N => ?_
  unfold sorted at h
  unfold sorted_l0 at h
  obtain ⟨y1, hy1, h⟩ := bindSome h
  obtain ⟨g0, h⟩ := guardSome h
  obtain ⟨g1, h⟩ := guardSome h
  cases h
  exact TrK.el hX sch_sorted 13 [2] [0, 1] [] (.c (ES.emC (collect_ok l hy1) [0] [some (.iter ((l).map encI))] (by kernel_rfl) (by kernel_rfl)) <| .c (ES.emC (sort_es y1 (n := y1.length) (Eq.refl y1.length) g0) [1] [none, some (.ints y1)] (by kernel_rfl) (by kernel_rfl)) <| .e) [] .e [.msl 1 1 0 y1.length] (DLe.mslN g1) (by kernel_rfl)


def sch_component : Sch := fun i => match i with
  | _ => .no
def component_l0 (n : Nat) (g_ : List (List Int)) (in_ : List Bool) (start : Int) : Option ((List Int) × Int) :=
  (gvalid n g_ ([in_] : List (List Bool))).bind fun y1 =>
   bif (y1 != 0) then
    some (([] : List Int), y1)
   else
    bif (decide (start < 0)) then
     some (([] : List Int), 1)
    else
     bif (decide (start ≥ ((g_.length : Nat) : Int))) then
      some (([] : List Int), 1)
     else
      if (0 : Int) ≤ start ∧ start < ((in_.length : Nat) : Int) then
       bif (!(in_.getD ((start).toNat) false)) then
        some (([] : List Int), 1)
       else
        (reach n g_ start in_).bind fun y2 =>
         (sorted n y2).bind fun y3 =>
          some (y3, 0)
      else none
def component (n : Nat) (g_ : List (List Int)) (in_ : List Bool) (start : Int) : Option ((List Int) × Int) := component_l0 n g_ in_ start
set_option maxRecDepth 100000 in
set_option maxHeartbeats 4000000 in
theorem component_ok {n : Nat} (g_ : List (List Int)) (in_ : List Bool) (start : Int) {r : (List Int) × Int} (h : component n g_ in_ start = some r) : ES Tryd.prog GG 76 [.sl 1 g_.length (rowE intsC g_), .bools in_, .int .i64 start] [] (.tup 2 (L1 [.ints r.1, .int .i64 r.2])) [] true := by
  have hX : HX Fence.wide Tryd.prog := ⟨FOk.wide, by kernel_rfl⟩
  refine ES.of_trk Tryd.func76 (by kernel_rfl) (by kernel_rfl) noIter_nil (fun _ => rfl) fun B N => ?_
  unfold component at h
  unfold component_l0 at h
  obtain ⟨y1, hy1, h⟩ := bindSome h
  rcases bifSome h with ⟨c0, h⟩ | ⟨c0, h⟩
  · cases h
    exact TrK.el hX sch_component 15 [6, 7] [] [] (.a 10 0 1 (rows_build (c := boolsC) (L := ([in_] : List (List Bool))) (vals := [.bools in_]) rfl ⟨⟨_, rfl, ⟨dle_refl, trivial⟩⟩, trivial⟩) <| .z 10 0 <| .g (Eq.refl 1) <| .c (ES.frameB (gvalid_ok g_ ([in_] : List (List Bool)) hy1) [none] (by kernel_rfl)) <| .o 13 (DLe.bool c0) <| .e) [] .e [.nils, .int .i64 y1] (DLe.tupL (l := [.nils, .int .i64 y1]) (l' := [.ints ([] : List Int), .int .i64 y1]) rfl ⟨DLe.ints_nil, (DLe.refl _), trivial⟩) (by kernel_rfl)
  · rcases bifSome h with ⟨c1, h⟩ | ⟨c1, h⟩
    · cases h
      exact TrK.el hX sch_component 20 [6, 7] [] [] (.a 10 0 1 (rows_build (c := boolsC) (L := ([in_] : List (List Bool))) (vals := [.bools in_]) rfl ⟨⟨_, rfl, ⟨dle_refl, trivial⟩⟩, trivial⟩) <| .z 10 0 <| .g (Eq.refl 1) <| .c (ES.frameB (gvalid_ok g_ ([in_] : List (List Bool)) hy1) [none] (by kernel_rfl)) <| .o 13 (DLe.bool c0) <| .o 16 (DLe.bool c1) <| .e) [] .e [.nils, .int .i64 1] (DLe.tupL (l := [.nils, .int .i64 1]) (l' := [.ints ([] : List Int), .int .i64 1]) rfl ⟨DLe.ints_nil, (DLe.refl _), trivial⟩) (by kernel_rfl)
    · rcases bifSome h with ⟨c2, h⟩ | ⟨c2, h⟩
      · cases h
        exact TrK.el hX sch_component 20 [6, 7] [] [] (.a 10 0 1 (rows_build (c := boolsC) (L := ([in_] : List (List Bool))) (vals := [.bools in_]) rfl ⟨⟨_, rfl, ⟨dle_refl, trivial⟩⟩, trivial⟩) <| .z 10 0 <| .g (Eq.refl 1) <| .c (ES.frameB (gvalid_ok g_ ([in_] : List (List Bool)) hy1) [none] (by kernel_rfl)) <| .o 13 (DLe.bool c0) <| .o 16 (DLe.bool c1) <| .o 21 (DLe.bool c2) <| .e) [] .e [.nils, .int .i64 1] (DLe.tupL (l := [.nils, .int .i64 1]) (l' := [.ints ([] : List Int), .int .i64 1]) rfl ⟨DLe.ints_nil, (DLe.refl _), trivial⟩) (by kernel_rfl)
      · obtain ⟨g0, h⟩ := guardSome h
        rcases bifSome h with ⟨c3, h⟩ | ⟨c3, h⟩
        · cases h
          exact TrK.el hX sch_component 20 [6, 7] [] [] (.a 10 0 1 (rows_build (c := boolsC) (L := ([in_] : List (List Bool))) (vals := [.bools in_]) rfl ⟨⟨_, rfl, ⟨dle_refl, trivial⟩⟩, trivial⟩) <| .z 10 0 <| .g (Eq.refl 1) <| .c (ES.frameB (gvalid_ok g_ ([in_] : List (List Bool)) hy1) [none] (by kernel_rfl)) <| .o 13 (DLe.bool c0) <| .o 16 (DLe.bool c1) <| .o 21 (DLe.bool c2) <| .g g0 <| .o 28 (DLe.bool c3) <| .e) [] .e [.nils, .int .i64 1] (DLe.tupL (l := [.nils, .int .i64 1]) (l' := [.ints ([] : List Int), .int .i64 1]) rfl ⟨DLe.ints_nil, (DLe.refl _), trivial⟩) (by kernel_rfl)
        · obtain ⟨y2, hy2, h⟩ := bindSome h
          obtain ⟨y3, hy3, h⟩ := bindSome h
          cases h
          exact TrK.e hX sch_component 21 [6, 7] [2] [] (.a 10 0 1 (rows_build (c := boolsC) (L := ([in_] : List (List Bool))) (vals := [.bools in_]) rfl ⟨⟨_, rfl, ⟨dle_refl, trivial⟩⟩, trivial⟩) <| .z 10 0 <| .g (Eq.refl 1) <| .c (ES.frameB (gvalid_ok g_ ([in_] : List (List Bool)) hy1) [none] (by kernel_rfl)) <| .o 13 (DLe.bool c0) <| .o 16 (DLe.bool c1) <| .o 21 (DLe.bool c2) <| .g g0 <| .o 28 (DLe.bool c3) <| .c (reachM_iter hy2 [none]) <| .c (ES.emC (sorted_ok y2 hy3) [1] [none, some (.iter ((y2).map encI))] (by kernel_rfl) (by kernel_rfl)) <| .e) [0] (.g (Eq.refl y3.length) <| .e) (by kernel_rfl)


def t_parts_11 : ST := .rd 0 (.rd 1 (.ef 2 (.ef 3 (.fin [] [4, 5]) (.no)) (.no)))
def a_parts_11 : Prop := TOk (regF Tryd.f79 11) [2] t_parts_11
theorem s_parts_11 : a_parts_11 := by unfold a_parts_11 TOk; kernel_rfl
def sch_parts : Sch := fun i => match i with
  | 11 => .tre [2] t_parts_11
  | _ => .no
def hp_parts_0 (g_ : List (List Int)) (o2_0 : Int) (y1 o1 : List Int) : DH := [some (.cells [.msl 3 1 0 g_.length]), some (.cells [.int .i64 (o2_0 + 1)]), some (.iter ((y1).map encI)), some (.ints o1)]
def tgt_parts_1 (g_ : List (List Int)) (o1 : List Int) (o2_0 : Int) : St := ⟨(frm 42 [(4, .ref 0 0), (5, .ref 2 0)]), ([some (.cells [.msl 1 1 0 g_.length]), some (.ints o1), some (.cells [.int .i64 o2_0])] : DH)⟩
inductive parts_b33T where
  | s0 (r33s0_3 : List Int)
def parts_b33_H (g_ : List (List Int)) (in_ : List Bool) (x13 o2_0 : Int) : parts_b33T → DH
  | .s0 r33s0_3 => [some (.cells [.msl 3 1 0 g_.length]), some (.cells [.int .i64 (o2_0 + 1)]), none, some (.ints r33s0_3)]
def parts_b33_e0 (n : Nat) (g_ : List (List Int)) (in_ : List Bool) (x13 o2_0 e33 : Int) (r33s0_3 : List Int) : Option parts_b33T :=
  if ((0 : Int) ≤ e33 ∧ e33 < ((g_.length : Nat) : Int)) ∧ 0 + ((e33).toNat) < r33s0_3.length then
   some (.s0 (r33s0_3.set (0 + ((e33).toNat)) (o2_0 + 1)))
  else none
def parts_b33_l0 (n : Nat) (g_ : List (List Int)) (in_ : List Bool) (x13 o2_0 e33 : Int) : parts_b33T → Option parts_b33T
  | .s0 r33s0_3 => parts_b33_e0 n g_ in_ x13 o2_0 e33 r33s0_3
def parts_b33 (n : Nat) (g_ : List (List Int)) (in_ : List Bool) (x13 o2_0 e33 : Int) (s : parts_b33T) : Option parts_b33T := parts_b33_l0 n g_ in_ x13 o2_0 e33 s
set_option maxRecDepth 100000 in
set_option maxHeartbeats 4000000 in
theorem parts_b33_ok (l B : Nat) (N : Yard Tryd.prog GG 3) (n : Nat) (g_ : List (List Int)) (in_ : List Bool) (x13 o2_0 e33 : Int) (s : parts_b33T) (r : parts_b33T) (h : parts_b33 n g_ in_ x13 o2_0 e33 s = some r) : TrA Tryd.prog GG (Fence.wide.inRound l) (some B) 3 N (RndQ 3 [] 0 (parts_b33_H g_ in_ x13 o2_0 r)) (rgA Tryd.f79 33) (rgB Tryd.f79 33) ⟨frm 42 [(0, .sl 1 g_.length (rowE intsC g_)), (1, .bools in_), (4, .ref 0 0), (5, .ref 1 0), (12, .int .i64 ((g_.length : Nat) : Int)), (13, .int .i64 x13), (33, .it 2), (34, .int .i64 e33)], parts_b33_H g_ in_ x13 o2_0 s⟩ := by
  have hX : HX (Fence.wide.inRound l) Tryd.prog := ⟨FOk.round l, by kernel_rfl⟩
  unfold parts_b33 at h
  cases s with
  | s0 r33s0_3 =>
    have h : parts_b33_e0 n g_ in_ x13 o2_0 e33 r33s0_3 = some r := h
    unfold parts_b33_e0 at h
    refine TrA.g hX sch_parts 6 [4, 5, 7] [0, 1, 2, 3] .e (frm 42 [(4, .ref 0 0), (5, .ref 1 0), (7, .int .i64 e33)]) [some (.cells [.msl 3 1 0 g_.length]), some (.cells [.int .i64 (o2_0 + 1)]), none, some (.ints r33s0_3)] (by kernel_rfl) ?_
    intro N
    obtain ⟨⟨b33_g0, b33_g1⟩, h⟩ := guardSome h
    cases h
    exact TrK.r hX sch_parts 8 [0, 1, 2, 3] [] (.g b33_g0 <| .g b33_g1 <| .e) rfl (by kernel_rfl)


inductive partsPt where
  | l1 (x13 : Int) (o1 : List Int) (o2_0 : Int)
def parts_l1 (n : Nat) (self : partsPt → Option ((List Int) × Int)) (g_ : List (List Int)) (in_ : List Bool) (x13 : Int) (o1 : List Int) (o2_0 : Int) : Option ((List Int) × Int) :=
  bif (decide (x13 < ((g_.length : Nat) : Int))) then
   if (0 : Int) ≤ x13 ∧ x13 < ((in_.length : Nat) : Int) then
    bif (!(in_.getD ((x13).toNat) false)) then
     if R64 (x13 + 1) then
      self (.l1 (x13 + 1) o1 o2_0)
     else none
    else
     if ((0 : Int) ≤ x13 ∧ x13 < ((g_.length : Nat) : Int)) ∧ 0 + ((x13).toNat) < o1.length then
      bif (decide ((o1.getD (0 + ((x13).toNat)) 0) > 0)) then
       if R64 (x13 + 1) then
        self (.l1 (x13 + 1) o1 o2_0)
       else none
      else
       if R64 (o2_0 + 1) then
        (reach n g_ x13 in_).bind fun y1 =>
         (foldO (parts_b33 n g_ in_ x13 o2_0) y1 (.s0 o1)).bind fun y2 =>
          match y2 with
          | .s0 y2_0_0 =>
           if R64 (x13 + 1) then
            self (.l1 (x13 + 1) y2_0_0 (o2_0 + 1))
           else none
       else none
     else none
   else none
  else
   if g_.length = o1.length then
    some (o1, o2_0)
   else none
def parts_l0 (n : Nat) (self : partsPt → Option ((List Int) × Int)) (g_ : List (List Int)) (in_ : List Bool) : Option ((List Int) × Int) :=
  if (((g_.length : Nat) : Int) : Int) = ((g_.length : Nat) : Int) ∧ (0 : Int) ≤ ((g_.length : Nat) : Int) ∧ (((g_.length : Nat) : Int) : Int) ≤ 1000000000000 then
   self (.l1 0 (List.replicate g_.length (0 : Int)) 0)
  else none
def parts_m (g_ : List (List Int)) (in_ : List Bool) : Nat → partsPt → Option ((List Int) × Int)
  | 0, _ => none
  | n + 1, .l1 x13 o1 o2_0 => parts_l1 n (parts_m g_ in_ n) g_ in_ x13 o1 o2_0
def parts (n : Nat) (g_ : List (List Int)) (in_ : List Bool) : Option ((List Int) × Int) := parts_l0 n (parts_m g_ in_ n) g_ in_
/-- What the points stand for. -/
def parts_at (n : Nat) (B : Nat) (N : Yard Tryd.prog GG 0) (g_ : List (List Int)) (in_ : List Bool) (r : (List Int) × Int) : partsPt → Prop
  | .l1 x13 o1 o2_0 => ∀ m0 : Nat, n ≤ m0 → TrK Tryd.prog GG Fence.wide (some B) 0 N (Fin Tryd.prog Tryd.f79 0 (.tup 2 (L1 [.ints r.1, .int .i64 r.2])) []) (toN m0 (atNC (bodyC Tryd.f79) 0 [])) ⟨frm 42 [(0, .sl 1 g_.length (rowE intsC g_)), (1, .bools in_), (4, .ref 0 0), (5, .ref 2 0), (12, .int .i64 ((g_.length : Nat) : Int)), (13, .int .i64 x13)], [some (.cells [.msl 1 1 0 g_.length]), some (.ints o1), some (.cells [.int .i64 o2_0])]⟩
set_option maxRecDepth 100000 in
set_option maxHeartbeats 4000000 in
theorem parts_p1 (n B : Nat) (N : Yard Tryd.prog GG 0) (self : partsPt → Option ((List Int) × Int)) (g_ : List (List Int)) (in_ : List Bool) (hself : ∀ pt r, self pt = some r → parts_at n B N g_ in_ r pt) (x13 : Int) (o1 : List Int) (o2_0 : Int) (r : (List Int) × Int) (h : parts_l1 n self g_ in_ x13 o1 o2_0 = some r) : parts_at (n + 1) B N g_ in_ r (.l1 x13 o1 o2_0) := by
  have hX : HX Fence.wide Tryd.prog := ⟨FOk.wide, by kernel_rfl⟩
  intro m0 hm0
  refine TrK.round hm0 (by kernel_rfl) fun m0 hm0 => ?_
  unfold parts_l1 at h
  rcases bifSome h with ⟨c0, h⟩ | ⟨c0, h⟩
  · obtain ⟨g0, h⟩ := guardSome h
    rcases bifSome h with ⟨c1, h⟩ | ⟨c1, h⟩
    · obtain ⟨g1, h⟩ := guardSome h
      exact TrK.g hX sch_parts 20 [0, 1, 4, 5, 12, 13, 34] [0, 1, 2] [] (.o 14 (DLe.bool c0) <| .g g0 <| .o 20 (DLe.bool c1) <| .o 39 (wr64 g1) <| .e) (hself (.l1 (x13 + 1) o1 o2_0) r h m0 hm0) (by kernel_rfl) (by kernel_rfl)
    · obtain ⟨⟨g1, g2⟩, h⟩ := guardSome h
      rcases bifSome h with ⟨c2, h⟩ | ⟨c2, h⟩
      · obtain ⟨g3, h⟩ := guardSome h
        exact TrK.g hX sch_parts 20 [0, 1, 4, 5, 12, 13, 34] [0, 1, 2] [] (.o 14 (DLe.bool c0) <| .g g0 <| .o 20 (DLe.bool c1) <| .g g1 <| .g g2 <| .o 26 (DLe.bool c2) <| .o 39 (wr64 g3) <| .e) (hself (.l1 (x13 + 1) o1 o2_0) r h m0 hm0) (by kernel_rfl) (by kernel_rfl)
      · obtain ⟨g3, h⟩ := guardSome h
        obtain ⟨y1, hy1, h⟩ := bindSome h
        obtain ⟨y2, hy2, h⟩ := bindSome h
        refine TrK.gS hX sch_parts 24 [0, 1, 4, 5, 12, 13, 33, 34] [0, 2, 3, 1] [] (.o 14 (DLe.bool c0) <| .g g0 <| .o 20 (DLe.bool c1) <| .g g1 <| .g g2 <| .o 26 (DLe.bool c2) <| .o 29 (wr64 g3) <| .g trivial <| .c (reachM_iter hy1 [some (.cells [.msl 1 1 0 g_.length]), some (.ints o1), some (.cells [.int .i64 (o2_0 + 1)])]) <| .e) [] .e (atT (bodyC Tryd.f79) 33 [m0]) (frm 42 [(0, .sl 1 g_.length (rowE intsC g_)), (1, .bools in_), (4, .ref 0 0), (5, .ref 1 0), (12, .int .i64 ((g_.length : Nat) : Int)), (13, .int .i64 x13), (33, .it 2)]) (hp_parts_0 g_ o2_0 y1 o1) (by kernel_rfl) (by kernel_rfl) ?_
        refine TrK.rg0 (.inl rfl) 2 33 #[34] encI 3 hy2 (fun l B N e s r hs => parts_b33_ok l B N n g_ in_ x13 o2_0 e s r hs) (by kernel_rfl) (by kernel_rfl) (by kernel_rfl) (fun _ => rfl) (by kernel_rfl) (by kernel_rfl) (by kernel_rfl) (by kernel_rfl) ?_
        cases y2 with
        | s0 y2_0_0 =>
          dsimp only at h
          obtain ⟨g4, h⟩ := guardSome h
          exact TrK.g hX sch_parts 8 [0, 1, 4, 5, 12, 13, 34] [0, 3, 1] [] (.o 39 (wr64 g4) <| .e) (hself (.l1 (x13 + 1) y2_0_0 (o2_0 + 1)) r h m0 hm0) (by kernel_rfl) (by kernel_rfl)
  · obtain ⟨g0, h⟩ := guardSome h
    cases h
    exact TrK.e hX sch_parts 12 [4, 5] [0, 1, 2] [([(2, 0)], (tgt_parts_1 g_ o1 o2_0))] (.o 14 (DLe.bool c0) <| .g s_parts_11 <| .g trivial <| .g trivial <| .g (Eq.refl (tgt_parts_1 g_ o1 o2_0)) <| .e) [1] (.g g0 <| .e) (by kernel_rfl)
theorem parts_all (B : Nat) (N : Yard Tryd.prog GG 0) (g_ : List (List Int)) (in_ : List Bool) : ∀ (n : Nat) (pt : partsPt) (r : (List Int) × Int), parts_m g_ in_ n pt = some r → parts_at n B N g_ in_ r pt
  | 0, _, _, h => by cases h
  | n + 1, .l1 x13 o1 o2_0, r, h => parts_p1 n B N (parts_m g_ in_ n) g_ in_ (parts_all B N g_ in_ n) x13 o1 o2_0 r h
set_option maxRecDepth 100000 in
set_option maxHeartbeats 4000000 in
theorem parts_ok {n : Nat} (g_ : List (List Int)) (in_ : List Bool) {r : (List Int) × Int} (h : parts n g_ in_ = some r) : ES Tryd.prog GG 79 [.sl 1 g_.length (rowE intsC g_), .bools in_] [] (.tup 2 (L1 [.ints r.1, .int .i64 r.2])) [] true := by
  have hX : HX Fence.wide Tryd.prog := ⟨FOk.wide, by kernel_rfl⟩
  refine ES.of_trk Tryd.func79 (by kernel_rfl) (by kernel_rfl) noIter_nil (fun _ => rfl) fun B N => ?_
  have hself := parts_all B N g_ in_ n
  unfold parts at h
  generalize parts_m g_ in_ n = self at h hself
  unfold parts_l0 at h
  obtain ⟨g0, h⟩ := guardSome h
  exact TrK.g hX sch_parts 13 [0, 1, 4, 5, 12, 13, 34] [0, 2, 1] [] (.g g0 <| .g trivial <| .e) (TrK.enter n (by kernel_rfl) (hself (.l1 0 (List.replicate g_.length (0 : Int)) 0) r h n (Nat.le_refl _))) (by kernel_rfl) (by kernel_rfl)


end Go.Proofs.YtekkngkphejfcaaDoor
