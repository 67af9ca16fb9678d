/- Functions read off the code: pruning: RiseC. -/
import Derived.Test.YtekkngkphejfcaaDoorHf
namespace Go.Proofs.YtekkngkphejfcaaDoor
open Go.RowKit

def sch_backM : Sch := fun i => match i with
  | _ => .no
def backM_l0 (n : Nat) (s_ : List Int) : Option Unit :=
  some ()
def backM (n : Nat) (s_ : List Int) : Option Unit := backM_l0 n s_
set_option maxRecDepth 100000 in
set_option maxHeartbeats 4000000 in
theorem backM_ok {n : Nat} (s_ : List Int) {r : Unit} (h : backM n s_ = some r) : ES Tryd.prog GG 61 [.ints s_] [] (.fn 73 1 (L1 [.ref 0 0])) [some (.cells [.ints s_])] true := by
  have hX : HX Fence.wide Tryd.prog := ⟨FOk.wide, by kernel_rfl⟩
  refine ES.of_trk Tryd.func61 (by kernel_rfl) (by kernel_rfl) (noIterB (by kernel_rfl)) (fun _ => rfl) fun B N => ?_
  unfold backM at h
  unfold backM_l0 at h
  cases h
  exact TrK.e hX sch_backM 9 [2] [0] [] .e [] .e (by kernel_rfl)


def sch_back : Sch := fun i => match i with
  | _ => .no
inductive backPt where
  | l1 (x3 : Int)
def back_l1 (n : Nat) (self : backPt → Option (List (Int × Int))) (s_ : List Int) (x3 : Int) : Option (List (Int × Int)) :=
  bif (decide (x3 ≥ 0)) then
   if (0 : Int) ≤ x3 ∧ x3 < ((s_.length : Nat) : Int) then
    Option.map (fun l => (x3, s_.getD ((x3).toNat) 0) :: l) (
     if R64 (x3 - 1) then
      self (.l1 (x3 - 1))
     else none)
   else none
  else
   some []
def back_l0 (n : Nat) (self : backPt → Option (List (Int × Int))) (s_ : List Int) : Option (List (Int × Int)) :=
  if R64 (((s_.length : Nat) : Int) - 1) then
   self (.l1 (((s_.length : Nat) : Int) - 1))
  else none
def back_m (s_ : List Int) : Nat → backPt → Option (List (Int × Int))
  | 0, _ => none
  | n + 1, .l1 x3 => back_l1 n (back_m s_ n) s_ x3
def back (n : Nat) (s_ : List Int) : Option (List (Int × Int)) := back_l0 n (back_m s_ n) s_
/-- What the points stand for. -/
def back_at (C : ItC Tryd.prog GG) (n : Nat) (s_ : List Int) (r : List (Int × Int)) : backPt → Prop
  | .l1 x3 => ∀ m0 : Nat, n ≤ m0 → ∀ i : Nat, i ≤ C.encs.length → C.encs.drop i = r.map encII → TrG Tryd.prog GG Fence.wide none 1 (C.Y 1 i) (C.Q 1) (toN m0 (atNC (bodyC Tryd.f73) 0 [])) ⟨frm 19 [(0, .yl C.l), (1, .ref 0 0), (3, .int .i64 x3)], [some (.cells [.ints s_])]⟩
set_option maxRecDepth 100000 in
set_option maxHeartbeats 4000000 in
theorem back_p1 (C : ItC Tryd.prog GG) (n : Nat) (self : backPt → Option (List (Int × Int))) (s_ : List Int) (hself : ∀ pt r, self pt = some r → back_at C n s_ r pt) (x3 : Int) (r : List (Int × Int)) (h : back_l1 n self s_ x3 = some r) : back_at C (n + 1) s_ r (.l1 x3) := by
  have hX : HX Fence.wide Tryd.prog := ⟨FOk.wide, by kernel_rfl⟩
  intro m0 hm0
  intro i hi hd
  refine TrK.round hm0 (by kernel_rfl) fun m0 hm0 => ?_
  unfold back_l1 at h
  rcases bifSome h with ⟨c0, h⟩ | ⟨c0, h⟩
  · refine TrK.gS hX (stopAt 3 sch_back) 13 [0, 1, 3] [0] [] (.o 8 (DLe.bool c0) <| .e) [] .e (atGC (bodyC Tryd.f73) 3 [m0]) (frm 19 [(0, .yl C.l), (1, .ref 0 0), (3, .int .i64 x3)]) [some (.cells [.ints s_])] (by kernel_rfl) (by kernel_rfl) ?_
    obtain ⟨g0, h⟩ := guardSome h
    obtain ⟨r, h2, rfl⟩ := mapSome h
    clear h
    have h := h2
    clear h2
    obtain ⟨hx, hi, hd⟩ := dropCons hd
    refine TrG.y (ops := regF Tryd.f73 3) hX 6 [0, 1, 3, 18] [0] (.g g0 <| .e) (x := encII (x3, s_.getD ((x3).toNat) 0)) (frm 19 [(0, .yl C.l), (1, .ref 0 0), (3, .int .i64 x3), (18, .bool false)]) [some (.cells [.ints s_])] (frm 19 [(0, .yl C.l), (1, .ref 0 0), (3, .int .i64 x3), (18, .bool true)]) [some (.cells [.ints s_])] (by kernel_rfl) (by kernel_rfl) (by kernel_rfl) hx (by kernel_rfl) ?_ ?_
    · generalize i + 1 = i at hi hd ⊢
      obtain ⟨g1, h⟩ := guardSome h
      exact TrK.g hX sch_back 9 [0, 1, 3] [0] [] (.o 10 (wr64 g1) <| .e) (hself (.l1 (x3 - 1)) r h m0 hm0 i hi hd) (by kernel_rfl) (by kernel_rfl)
    · exact TrI.e hX sch_back 6 .e (by kernel_rfl) (.inr rfl)
  · cases h
    exact TrI.e hX sch_back 10 (.o 8 (DLe.bool c0) <| .e) (by kernel_rfl) (.inl (by rw [dropNil hi hd]))
theorem back_all (C : ItC Tryd.prog GG) (s_ : List Int) : ∀ (n : Nat) (pt : backPt) (r : List (Int × Int)), back_m s_ n pt = some r → back_at C n s_ r pt
  | 0, _, _, h => by cases h
  | n + 1, .l1 x3, r, h => back_p1 C n (back_m s_ n) s_ (back_all C s_ n) x3 r h
set_option maxRecDepth 100000 in
set_option maxHeartbeats 4000000 in
theorem back_it {n : Nat} (s_ : List Int) {r : List (Int × Int)} (h : back n s_ = some r) (C : ItC Tryd.prog GG) (hC : C.encs = r.map encII) : TrG Tryd.prog GG Fence.wide none 1 (C.Y 1 0) (C.Q 1) [.code (bodyC Tryd.f73)] ⟨frm 19 [(0, .yl C.l), (1, .ref 0 0)], [some (.cells [.ints s_])]⟩ := by
  have hX : HX Fence.wide Tryd.prog := ⟨FOk.wide, by kernel_rfl⟩
  suffices H : ∀ i : Nat, i ≤ C.encs.length → C.encs.drop i = r.map encII → TrG Tryd.prog GG Fence.wide none 1 (C.Y 1 i) (C.Q 1) [.code (bodyC Tryd.f73)] ⟨frm 19 [(0, .yl C.l), (1, .ref 0 0)], [some (.cells [.ints s_])]⟩ from H 0 (Nat.zero_le _) (by rw [List.drop_zero]; exact hC)
  intro i hi hd
  have hself := back_all C s_ n
  unfold back at h
  generalize back_m s_ n = self at h hself
  unfold back_l0 at h
  obtain ⟨g0, h⟩ := guardSome h
  exact TrK.g hX sch_back 8 [0, 1, 3] [0] [] (.o 6 (wr64 g0) <| .e) (TrK.enter n (by kernel_rfl) (hself (.l1 (((s_.length : Nat) : Int) - 1)) r h n (Nat.le_refl _) i hi hd)) (by kernel_rfl) (by kernel_rfl)


set_option maxRecDepth 100000 in
theorem backM_iter {n : Nat} {s_ : List Int} {r : List (Int × Int)} (h : back n s_ = some r) (H : DH) : ES Tryd.prog GG 61 [.ints s_] H (.it H.length) (H ++ [some (.iter (r.map encII))]) true := by
  refine ES.iterN (c := L1 [.ref 0 0]) (h0 := [some (.cells [.ints s_])]) (fn := Tryd.f73) (backM_ok (n := 0) s_ (r := ()) rfl) (by kernel_rfl) Tryd.func73 (by kernel_rfl) (by kernel_rfl) (by kernel_rfl) (fun C hC => ?_) H
  have e : DV.yl C.l :: (List.range 1).map (L1 [.ref 0 0]) ++ List.replicate (Tryd.f73.ntmps - (1 + 1)) .any = frm 19 [(0, .yl C.l), (1, .ref 0 0)] := by kernel_rfl
  rw [e]
  exact back_it s_ h C hC

end Go.Proofs.YtekkngkphejfcaaDoor
