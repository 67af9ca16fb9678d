/- Functions read off the code: iterators. -/
import Derived.Test.YtekkngkphejfcaaDoorDsym
import Derived.Test.YtekkngkphejfcaaDoorHd
namespace Go.Proofs.YtekkngkphejfcaaDoor
open Go.RowKit

def sch_symbolsF : Sch := fun i => match i with
  | _ => .no
def symbolsF_l0 (n : Nat) (set_ : Int) : Option Unit :=
  some ()
def symbolsF (n : Nat) (set_ : Int) : Option Unit := symbolsF_l0 n set_
set_option maxRecDepth 100000 in
set_option maxHeartbeats 4000000 in
theorem symbolsF_ok {n : Nat} (set_ : Int) {r : Unit} (h : symbolsF n set_ = some r) : ES Tryd.prog GG 27 [.int .i64 set_] [] (.fn 50 1 (L1 [.ref 0 0])) [some (.cells [.int .i64 set_])] true := by
  have hX : HX Fence.wide Tryd.prog := ⟨FOk.wide, by kernel_rfl⟩
  refine ES.of_trk Tryd.func27 (by kernel_rfl) (by kernel_rfl) (noIterB (by kernel_rfl)) (fun _ => rfl) fun B N => ?_
  unfold symbolsF at h
  unfold symbolsF_l0 at h
  cases h
  exact TrK.e hX sch_symbolsF 9 [2] [0] [] .e [] .e (by kernel_rfl)



theorem symbols_it {x : Int} (hx : (0 : Int) ≤ x ∧ x < 9223372036854775808) (h : DH) : ES Tryd.prog GG 27 [.int .i64 x] h (.it h.length) (h ++ [some (.iter ((symsI x).map encI))]) true := by
  refine ES.iterOf (symbolsF_ok (n := 0) x (r := ()) rfl) rfl (by kernel_rfl) (fun args W => ?_) (fun w b o u hg hng hb hc hr => symbols_law hx w b o u hg hng hb hc hr) rfl (fun b hb => ?_) h
  · exact enterOk Tryd.func50 (by kernel_rfl) (by kernel_rfl) args W
  · rw [hb]; decide


def t_endsW_4 : ST := .rd 0 (.rd 1 (.rd 2 (.rd 3 (.rd 4 (.rd 5 (.rd 6 (.rd 7 (.rd 8 (.rd 9 (.rd 10 (.rd 11 (.rd 12 (.rd 13 (.rd 14 (.rd 15 (.rd 16 (.rd 17 (.rd 18 (.rd 19 (.ef 20 (.ef 21 (.fin [] [4, 5]) (.no)) (.no)))))))))))))))))))))
def a_endsW_4 : Prop := TOk (regF Tryd.f60 4) [20] t_endsW_4
theorem s_endsW_4 : a_endsW_4 := by unfold a_endsW_4 TOk; kernel_rfl
def t_endsW_5 : ST := .rd 0 (.rd 1 (.ef 2 (.ef 3 (.fin [] [4, 5]) (.no)) (.no)))
def a_endsW_5 : Prop := TOk (regF Tryd.f60 5) [2] t_endsW_5
theorem s_endsW_5 : a_endsW_5 := by unfold a_endsW_5 TOk; kernel_rfl
def sch_endsW : Sch := fun i => match i with
  | 4 => .tre [20] t_endsW_4
  | 5 => .tre [2] t_endsW_5
  | _ => .no
def hp_endsW_0 (c : ConsD) (q : ProbD) (pos : List Int) (ln : Nat) (lost : List Int) : DH := [some (.cells (consC c ++ probC q ++ [.ints pos, .msl 1 1 0 ln])), some (.ints lost), some (.cells [.ref 0 0]), some (.cells [.int .i64 100]), some (.cells [.int .i64 (-1)])]
def hp_endsW_1 (c : ConsD) (q : ProbD) (pos : List Int) (ln : Nat) (lost : List Int) (ss : Int) : DH := [some (.cells (consC c ++ probC q ++ [.ints pos, .msl 1 1 0 ln])), some (.ints lost), some (.cells [.ref 0 0]), some (.cells [.int .i64 100]), some (.cells [.int .i64 (-1)]), some (.iter ((symsI ss).map encI))]
def tgt_endsW_2 (c : ConsD) (q : ProbD) (pos : List Int) (ln : Nat) (lost : List Int) (y1_0_0 y1_0_1 : Int) : St := ⟨(frm 32 [(4, .ref 3 0), (5, .ref 4 0)]), ([some (.cells (consC c ++ probC q ++ [.ints pos, .msl 1 1 0 ln])), some (.ints lost), some (.cells [.ref 0 0]), some (.cells [.int .i64 y1_0_0]), some (.cells [.int .i64 y1_0_1]), none] : DH)⟩
def hp_endsW_3 (c : ConsD) (q : ProbD) (pos : List Int) (ln : Nat) (lost : List Int) (r8s0_3_0 r8s0_4_0 : Int) : DH := [some (.cells (consC c ++ probC q ++ [.ints pos, .msl 1 1 0 ln])), some (.ints lost), some (.cells [.ref 0 0]), some (.cells [.int .i64 r8s0_3_0]), some (.cells [.int .i64 r8s0_4_0]), none]
def tgt_endsW_4 (c : ConsD) (q : ProbD) (pos : List Int) (ln : Nat) (lost : List Int) (e8 r8s0_3_0 r8s0_4_0 : Int) : St := ⟨(frm 32 [(4, .ref 3 0), (5, .ref 4 0)]), ([some (.cells (consC c ++ probC q ++ [.ints pos, .msl 1 1 0 ln])), some (.ints lost), some (.cells [.ref 0 0]), some (.cells [.int .i64 (if (q.values.getD ((e8).toNat) 0) < r8s0_3_0 then (q.values.getD ((e8).toNat) 0) else r8s0_3_0)]), some (.cells [.int .i64 (if (q.values.getD ((e8).toNat) 0) > r8s0_4_0 then (q.values.getD ((e8).toNat) 0) else r8s0_4_0)]), none] : DH)⟩
inductive endsW_b8T where
  | s0 (r8s0_3_0 r8s0_4_0 : Int)
def endsW_b8_H (c : ConsD) (q : ProbD) (pos : List Int) (ln : Nat) (lost : List Int) : endsW_b8T → DH
  | .s0 r8s0_3_0 r8s0_4_0 => [some (.cells (consC c ++ probC q ++ [.ints pos, .msl 1 1 0 ln])), some (.ints lost), some (.cells [.ref 0 0]), some (.cells [.int .i64 r8s0_3_0]), some (.cells [.int .i64 r8s0_4_0]), none]
def endsW_b8_e0 (n : Nat) (c : ConsD) (q : ProbD) (pos : List Int) (ln : Nat) (lost : List Int) (e8 : Int) (r8s0_3_0 r8s0_4_0 : Int) : Option endsW_b8T :=
  if (0 : Int) ≤ e8 ∧ e8 < ((q.values.length : Nat) : Int) then
   some (.s0 (if (q.values.getD ((e8).toNat) 0) < r8s0_3_0 then (q.values.getD ((e8).toNat) 0) else r8s0_3_0) (if (q.values.getD ((e8).toNat) 0) > r8s0_4_0 then (q.values.getD ((e8).toNat) 0) else r8s0_4_0))
  else none
def endsW_b8_l0 (n : Nat) (c : ConsD) (q : ProbD) (pos : List Int) (ln : Nat) (lost : List Int) (e8 : Int) : endsW_b8T → Option endsW_b8T
  | .s0 r8s0_3_0 r8s0_4_0 => endsW_b8_e0 n c q pos ln lost e8 r8s0_3_0 r8s0_4_0
def endsW_b8 (n : Nat) (c : ConsD) (q : ProbD) (pos : List Int) (ln : Nat) (lost : List Int) (e8 : Int) (s : endsW_b8T) : Option endsW_b8T := endsW_b8_l0 n c q pos ln lost e8 s
set_option maxRecDepth 100000 in
set_option maxHeartbeats 4000000 in
theorem endsW_b8_ok (l B : Nat) (N : Yard Tryd.prog GG 6) (n : Nat) (c : ConsD) (q : ProbD) (pos : List Int) (ln : Nat) (lost : List Int) (e8 : Int) (s : endsW_b8T) (r : endsW_b8T) (h : endsW_b8 n c q pos ln lost e8 s = some r) : TrA Tryd.prog GG (Fence.wide.inRound l) (some B) 6 N (RndQ 6 [] 0 (endsW_b8_H c q pos ln lost r)) (rgA Tryd.f60 8) (rgB Tryd.f60 8) ⟨frm 32 [(2, .ref 2 0), (4, .ref 3 0), (5, .ref 4 0), (8, .it 5), (9, .int .i64 e8)], endsW_b8_H c q pos ln lost s⟩ := by
  have hX : HX (Fence.wide.inRound l) Tryd.prog := ⟨FOk.round l, by kernel_rfl⟩
  unfold endsW_b8 at h
  cases s with
  | s0 r8s0_3_0 r8s0_4_0 =>
    have h : endsW_b8_e0 n c q pos ln lost e8 r8s0_3_0 r8s0_4_0 = some r := h
    unfold endsW_b8_e0 at h
    refine TrA.g hX sch_endsW 6 [2, 4, 5, 6] [0, 1, 2, 3, 4, 5] .e (frm 32 [(2, .ref 2 0), (4, .ref 3 0), (5, .ref 4 0), (6, .int .i64 e8)]) (hp_endsW_3 c q pos ln lost r8s0_3_0 r8s0_4_0) (by kernel_rfl) ?_
    intro N
    obtain ⟨b8_g0, h⟩ := guardSome h
    cases h
    exact TrK.r hX sch_endsW 8 [0, 1, 2, 3, 4, 5] [([(20, 3)], (tgt_endsW_4 c q pos ln lost e8 r8s0_3_0 r8s0_4_0))] (.g s_endsW_4 <| .g b8_g0 <| .g b8_g0 <| .g trivial <| .g trivial <| .g (Eq.refl (tgt_endsW_4 c q pos ln lost e8 r8s0_3_0 r8s0_4_0)) <| .e) rfl (by kernel_rfl)


def endsW_l0 (n : Nat) (ss : Int) (c : ConsD) (q : ProbD) (pos : List Int) (ln : Nat) (lost : List Int) : Option (Int × Int × (List Int)) :=
  if (0 : Int) ≤ ss ∧ ss < 9223372036854775808 then
   (foldO (endsW_b8 n c q pos ln lost) (symsI ss) (.s0 100 (-1))).bind fun y1 =>
    match y1 with
    | .s0 y1_0_0 y1_0_1 =>
     some (y1_0_0, y1_0_1, lost)
  else none
def endsW (n : Nat) (ss : Int) (c : ConsD) (q : ProbD) (pos : List Int) (ln : Nat) (lost : List Int) : Option (Int × Int × (List Int)) := endsW_l0 n ss c q pos ln lost
set_option maxRecDepth 100000 in
set_option maxHeartbeats 4000000 in
theorem endsW_ok {n : Nat} (ss : Int) (c : ConsD) (q : ProbD) (pos : List Int) (ln : Nat) (lost : List Int) {r : Int × Int × (List Int)} (h : endsW n ss c q pos ln lost = some r) : ES Tryd.prog GG 60 [.ref 0 0, .int .i64 ss] [some (.cells (consC c ++ probC q ++ [.ints pos, .msl 1 1 0 ln])), some (.ints lost)] (.tup 2 (L1 [.int .i64 r.1, .int .i64 r.2.1])) [some (.cells (consC c ++ probC q ++ [.ints pos, .msl 1 1 0 ln])), some (.ints r.2.2)] false := by
  have hX : HX Fence.wide Tryd.prog := ⟨FOk.wide, by kernel_rfl⟩
  refine ES.of_trk Tryd.func60 (by kernel_rfl) (by kernel_rfl) (noIterB (by kernel_rfl)) (fun e => by cases e) fun B N => ?_
  unfold endsW at h
  unfold endsW_l0 at h
  obtain ⟨g0, h⟩ := guardSome h
  obtain ⟨y1, hy1, h⟩ := bindSome h
  refine TrK.gS hX sch_endsW 13 [2, 4, 5, 8, 9] [0, 1, 2, 3, 4, 5] [] (.g trivial <| .g trivial <| .c (symbols_it g0 (hp_endsW_0 c q pos ln lost)) <| .e) [] .e (atT (bodyC Tryd.f60) 8 []) (frm 32 [(2, .ref 2 0), (4, .ref 3 0), (5, .ref 4 0), (8, .it 5)]) (hp_endsW_1 c q pos ln lost ss) (by kernel_rfl) (by kernel_rfl) ?_
  refine TrK.rg0 (.inl rfl) 5 8 #[9] encI 6 hy1 (fun l B N e s r hs => endsW_b8_ok l B N n c q pos ln lost e s r hs) (by kernel_rfl) (by kernel_rfl) (by kernel_rfl) (fun _ => rfl) (by kernel_rfl) (by kernel_rfl) (by kernel_rfl) (by kernel_rfl) ?_
  cases y1 with
  | s0 y1_0_0 y1_0_1 =>
    dsimp only at h
    cases h
    exact TrK.e hX sch_endsW 8 [4, 5] [0, 1, 3, 4] [([(2, 3)], (tgt_endsW_2 c q pos ln lost y1_0_0 y1_0_1))] (.g s_endsW_5 <| .g trivial <| .g trivial <| .g (Eq.refl (tgt_endsW_2 c q pos ln lost y1_0_0 y1_0_1)) <| .e) [] .e (by kernel_rfl)


def t_sumW_5 : ST := .rd 0 (.rd 1 (.rd 2 (.rd 3 (.rd 4 (.rd 5 (.rd 6 (.rd 7 (.ef 8 (.rd 9 (.rd 10 (.rd 11 (.rd 12 (.rd 13 (.fin [] [1, 3, 4, 7, 8, 19, 20, 21, 90])))))) (.no)))))))))
def a_sumW_5 : Prop := TOk (regF Tryd.f42 5) [] t_sumW_5
theorem s_sumW_5 : a_sumW_5 := by unfold a_sumW_5 TOk; kernel_rfl
def t_sumW_6 : ST := .rd 0 (.rd 1 (.rd 2 (.rd 3 (.rd 4 (.rd 5 (.ef 6 (.ef 7 (.fin [] [1, 3, 4, 19, 20, 21, 90]) (.no)) (.no)))))))
def a_sumW_6 : Prop := TOk (regF Tryd.f42 6) [6] t_sumW_6
theorem s_sumW_6 : a_sumW_6 := by unfold a_sumW_6 TOk; kernel_rfl
def a_sumW_8 : Prop := SOk (regF Tryd.f42 8) [] [0, 1, 2, 3, 4, 5, 6, 7, 8, 9, 10, 11, 12, 13, 14, 15] []
theorem s_sumW_8 : a_sumW_8 := by unfold a_sumW_8 SOk; kernel_rfl
def t_sumW_13 : ST := .rd 0 (.rd 1 (.rd 2 (.rd 3 (.rd 4 (.rd 5 (.rd 6 (.rd 7 (.ef 8 (.rd 9 (.rd 10 (.rd 11 (.ef 12 (.ef 13 (.ef 14 (.ef 15 (.fin [0, 1] [1, 3, 4, 10, 11, 12, 64, 65, 66, 90]) (.no)) (.no)) (.no)) (.ef 13 (.ef 12 (.ef 14 (.ef 15 (.fin [1, 0] [1, 3, 4, 10, 11, 12, 64, 65, 66, 90]) (.no)) (.no)) (.no)) (.no)))))) (.ef 12 (.ef 8 (.rd 9 (.rd 10 (.rd 11 (.ef 13 (.ef 14 (.ef 15 (.fin [0, 1] [1, 3, 4, 10, 11, 12, 64, 65, 66, 90]) (.no)) (.no)) (.no))))) (.ef 13 (.ef 8 (.rd 9 (.rd 10 (.rd 11 (.ef 14 (.ef 15 (.fin [0, 1] [1, 3, 4, 10, 11, 12, 64, 65, 66, 90]) (.no)) (.no))))) (.no)) (.no))) (.ef 13 (.ef 8 (.rd 9 (.rd 10 (.rd 11 (.ef 12 (.ef 14 (.ef 15 (.fin [1, 0] [1, 3, 4, 10, 11, 12, 64, 65, 66, 90]) (.no)) (.no)) (.no))))) (.ef 12 (.ef 8 (.rd 9 (.rd 10 (.rd 11 (.ef 14 (.ef 15 (.fin [1, 0] [1, 3, 4, 10, 11, 12, 64, 65, 66, 90]) (.no)) (.no))))) (.no)) (.no))) (.no)))))))))))
def a_sumW_13 : Prop := TOk (regF Tryd.f42 13) [12, 13, 14] t_sumW_13
theorem s_sumW_13 : a_sumW_13 := by unfold a_sumW_13 TOk; kernel_rfl
def a_sumW_14 : Prop := SOk (regF Tryd.f42 14) [([0, 1, 2, 3, 4, 5, 6], 7)] [] []
theorem s_sumW_14 : a_sumW_14 := by unfold a_sumW_14 SOk; kernel_rfl
def a_sumW_17 : Prop := SOk (regF Tryd.f42 17) [] [0, 1, 2, 3, 4, 5, 6, 7, 8, 9, 10, 11, 12, 13, 14, 15, 16, 17, 18, 19, 20, 21, 22, 23] []
theorem s_sumW_17 : a_sumW_17 := by unfold a_sumW_17 SOk; kernel_rfl
def t_sumW_18 : ST := .rd 0 (.rd 1 (.rd 2 (.rd 3 (.ef 4 (.fin [] [2]) (.no)))))
def a_sumW_18 : Prop := TOk (regF Tryd.f42 18) [] t_sumW_18
theorem s_sumW_18 : a_sumW_18 := by unfold a_sumW_18 TOk; kernel_rfl
def sch_sumW : Sch := fun i => match i with
  | 5 => .tre [] t_sumW_5
  | 6 => .tre [6] t_sumW_6
  | 8 => .ord [] [0, 1, 2, 3, 4, 5, 6, 7, 8, 9, 10, 11, 12, 13, 14, 15] []
  | 13 => .tre [12, 13, 14] t_sumW_13
  | 14 => .ord [([0, 1, 2, 3, 4, 5, 6], 7)] [] []
  | 17 => .ord [] [0, 1, 2, 3, 4, 5, 6, 7, 8, 9, 10, 11, 12, 13, 14, 15, 16, 17, 18, 19, 20, 21, 22, 23] []
  | 18 => .tre [] t_sumW_18
  | _ => .no
def hp_sumW_0 (c : ConsD) (q : ProbD) (pos : List Int) (ln : Nat) (o1 : List Int) (o3_0 o4_0 : Int) : DH := [some (.cells (consC c ++ probC q ++ [.ints pos, .msl 1 1 0 ln])), some (.ints o1), some (.cells [.ref 0 0]), some (.cells [.int .i64 o3_0]), some (.cells [.int .i64 o4_0])]
def tgt_sumW_1 (y1 : Int × Int × (List Int)) (c : ConsD) (x21 : Int) (q : ProbD) (pos : List Int) (ln : Nat) (o3_0 o4_0 : Int) : St := ⟨(frm 129 [(1, .ref 2 0), (3, .ref 3 0), (4, .ref 4 0), (7, .int .i64 y1.1), (8, .int .i64 y1.2.1), (19, .ints c.cells), (20, .int .i64 ((c.cells.length : Nat) : Int)), (21, .int .i64 x21)]), ([some (.cells (consC c ++ probC q ++ [.ints pos, .msl 1 1 0 ln])), some (.ints y1.2.2), some (.cells [.ref 0 0]), some (.cells [.int .i64 o3_0]), some (.cells [.int .i64 o4_0])] : DH)⟩
def tgt_sumW_2 (c : ConsD) (x21 : Int) (q : ProbD) (pos : List Int) (ln : Nat) (y1 : Int × Int × (List Int)) (o3_0 o4_0 : Int) : St := ⟨(frm 129 [(1, .ref 2 0), (3, .ref 3 0), (4, .ref 4 0), (19, .ints c.cells), (20, .int .i64 ((c.cells.length : Nat) : Int)), (21, .int .i64 x21)]), ([some (.cells (consC c ++ probC q ++ [.ints pos, .msl 1 1 0 ln])), some (.ints y1.2.2), some (.cells [.ref 0 0]), some (.cells [.int .i64 (o3_0 + y1.1)]), some (.cells [.int .i64 (o4_0 + y1.2.1)])] : DH)⟩
def hp_sumW_3 (c : ConsD) (q : ProbD) (pos : List Int) (ln : Nat) (o1 : List Int) (o3_0 o4_0 x66 : Int) : DH := [some (.cells (consC c ++ probC q ++ [.ints pos, .msl 1 1 0 ln])), some (.ints o1), some (.cells [.ref 0 0]), some (.cells [.int .i64 o3_0]), some (.cells [.int .i64 o4_0]), some (.cells [.int .i64 (c.cells.getD ((x66).toNat) 0)])]
def tgt_sumW_4 (c : ConsD) (x66 : Int) (q : ProbD) (pos : List Int) (ln : Nat) (y1 : Int × Int × (List Int)) (o3_0 o4_0 : Int) : St := ⟨(frm 129 [(1, .ref 2 0), (3, .ref 3 0), (4, .ref 4 0), (10, .ref 5 0), (11, .ref 6 0), (12, .ref 7 0), (64, .ints c.cells), (65, .int .i64 ((c.cells.length : Nat) : Int)), (66, .int .i64 x66)]), ([some (.cells (consC c ++ probC q ++ [.ints pos, .msl 1 1 0 ln])), some (.ints y1.2.2), some (.cells [.ref 0 0]), some (.cells [.int .i64 o3_0]), some (.cells [.int .i64 o4_0]), some (.cells [.int .i64 (c.cells.getD ((x66).toNat) 0)]), some (.cells [.int .i64 y1.1]), some (.cells [.int .i64 y1.2.1])] : DH)⟩
def hp_sumW_5 (c : ConsD) (q : ProbD) (pos : List Int) (ln : Nat) (o1 : List Int) (o3_0 o4_0 x66 : Int) : DH := [some (.cells (consC c ++ probC q ++ [.ints pos, .msl 1 1 0 ln])), some (.ints o1), some (.cells [.ref 0 0]), some (.cells [.int .i64 o3_0]), some (.cells [.int .i64 o4_0]), some (.cells [.int .i64 (c.cells.getD ((x66).toNat) 0)]), some (.cells [.int .i64 0])]
def hp_sumW_6 (c : ConsD) (q : ProbD) (pos : List Int) (ln : Nat) (o1 : List Int) (o3_0 o4_0 x66 : Int) : DH := [some (.cells (consC c ++ probC q ++ [.ints pos, .msl 1 1 0 ln])), some (.ints o1), some (.cells [.ref 0 0]), some (.cells [.int .i64 o3_0]), some (.cells [.int .i64 o4_0]), some (.cells [.int .i64 (c.cells.getD ((x66).toNat) 0)]), some (.cells [.int .i64 0]), some (.cells [.int .i64 0])]
def hp_sumW_7 (c : ConsD) (q : ProbD) (pos : List Int) (ln : Nat) (y1 : Int × Int × (List Int)) (o3_0 o4_0 x66 : Int) : DH := [some (.cells (consC c ++ probC q ++ [.ints pos, .msl 1 1 0 ln])), some (.ints y1.2.2), some (.cells [.ref 0 0]), some (.cells [.int .i64 o3_0]), some (.cells [.int .i64 o4_0]), some (.cells [.int .i64 (c.cells.getD ((x66).toNat) 0)]), some (.cells [.int .i64 y1.1]), some (.cells [.int .i64 y1.2.1])]
def hp_sumW_8 (c : ConsD) (q : ProbD) (pos : List Int) (ln : Nat) (y1 : Int × Int × (List Int)) (o3_0 o4_0 x66 : Int) : DH := [some (.cells (consC c ++ probC q ++ [.ints pos, .msl 1 1 0 ln])), some (.ints y1.2.2), some (.cells [.ref 0 0]), some (.cells [.int .i64 o3_0]), some (.cells [.int .i64 o4_0]), some (.cells [.int .i64 (c.cells.getD ((x66).toNat) 0)]), some (.cells [.int .i64 y1.1]), some (.cells [.int .i64 y1.2.1]), some (.iter ((symsI (pos.getD ((c.cells.getD ((x66).toNat) 0).toNat) 0)).map encI))]
def hp_sumW_9 (c : ConsD) (q : ProbD) (pos : List Int) (ln : Nat) (r89s0_1 : List Int) (o3_0 o4_0 x66 : Int) (y1 : Int × Int × (List Int)) : DH := [some (.cells (consC c ++ probC q ++ [.ints pos, .msl 1 1 0 ln])), some (.ints r89s0_1), some (.cells [.ref 0 0]), some (.cells [.int .i64 o3_0]), some (.cells [.int .i64 o4_0]), some (.cells [.int .i64 (c.cells.getD ((x66).toNat) 0)]), some (.cells [.int .i64 y1.1]), some (.cells [.int .i64 y1.2.1]), none]
def tgt_sumW_10 (c : ConsD) (q : ProbD) (pos : List Int) (ln : Nat) (b89_y1 : (List Int)) (o3_0 o4_0 x66 : Int) (y1 : Int × Int × (List Int)) : St := ⟨(frm 129 []), ([some (.cells (consC c ++ probC q ++ [.ints pos, .msl 1 1 0 ln])), some (.ints b89_y1), some (.cells [.ref 0 0]), some (.cells [.int .i64 o3_0]), some (.cells [.int .i64 o4_0]), some (.cells [.int .i64 (c.cells.getD ((x66).toNat) 0)]), some (.cells [.int .i64 y1.1]), some (.cells [.int .i64 y1.2.1]), none] : DH)⟩
inductive sumW_b89T where
  | s0 (r89s0_1 : List Int)
def sumW_b89_H (c : ConsD) (x66 : Int) (q : ProbD) (pos : List Int) (ln : Nat) (o3_0 o4_0 : Int) (y1 : Int × Int × (List Int)) : sumW_b89T → DH
  | .s0 r89s0_1 => [some (.cells (consC c ++ probC q ++ [.ints pos, .msl 1 1 0 ln])), some (.ints r89s0_1), some (.cells [.ref 0 0]), some (.cells [.int .i64 o3_0]), some (.cells [.int .i64 o4_0]), some (.cells [.int .i64 (c.cells.getD ((x66).toNat) 0)]), some (.cells [.int .i64 y1.1]), some (.cells [.int .i64 y1.2.1]), none]
def sumW_b89_e0 (n : Nat) (c : ConsD) (x66 : Int) (q : ProbD) (pos : List Int) (ln : Nat) (o3_0 o4_0 : Int) (y1 : Int × Int × (List Int)) (e89 : Int) (r89s0_1 : List Int) : Option sumW_b89T :=
  if ((0 : Int) ≤ e89 ∧ e89 < ((q.values.length : Nat) : Int)) ∧ R64 (o3_0 - y1.1) ∧ R64 ((o3_0 - y1.1) + (q.values.getD ((e89).toNat) 0)) then
   bif (decide (((o3_0 - y1.1) + (q.values.getD ((e89).toNat) 0)) > c.hi)) then
    if (0 : Int) ≤ e89 ∧ e89 ≤ ((IntKind.i64.bits : Nat) : Int) then
     (loseW n (c.cells.getD ((x66).toNat) 0) (IntKind.i64.wrap (1 * 2 ^ (e89).toNat)) c q pos ln r89s0_1).bind fun b89_y1 =>
      some (.s0 b89_y1)
    else none
   else
    if R64 (o4_0 - y1.2.1) ∧ R64 ((o4_0 - y1.2.1) + (q.values.getD ((e89).toNat) 0)) then
     bif (decide (((o4_0 - y1.2.1) + (q.values.getD ((e89).toNat) 0)) < c.lo)) then
      if (0 : Int) ≤ e89 ∧ e89 ≤ ((IntKind.i64.bits : Nat) : Int) then
       (loseW n (c.cells.getD ((x66).toNat) 0) (IntKind.i64.wrap (1 * 2 ^ (e89).toNat)) c q pos ln r89s0_1).bind fun b89_y1 =>
        some (.s0 b89_y1)
      else none
     else
      some (.s0 r89s0_1)
    else none
  else none
def sumW_b89_l0 (n : Nat) (c : ConsD) (x66 : Int) (q : ProbD) (pos : List Int) (ln : Nat) (o3_0 o4_0 : Int) (y1 : Int × Int × (List Int)) (e89 : Int) : sumW_b89T → Option sumW_b89T
  | .s0 r89s0_1 => sumW_b89_e0 n c x66 q pos ln o3_0 o4_0 y1 e89 r89s0_1
def sumW_b89 (n : Nat) (c : ConsD) (x66 : Int) (q : ProbD) (pos : List Int) (ln : Nat) (o3_0 o4_0 : Int) (y1 : Int × Int × (List Int)) (e89 : Int) (s : sumW_b89T) : Option sumW_b89T := sumW_b89_l0 n c x66 q pos ln o3_0 o4_0 y1 e89 s
set_option maxRecDepth 100000 in
set_option maxHeartbeats 4000000 in
theorem sumW_b89_ok (l B : Nat) (N : Yard Tryd.prog GG 9) (n : Nat) (c : ConsD) (x66 : Int) (q : ProbD) (pos : List Int) (ln : Nat) (o3_0 o4_0 : Int) (y1 : Int × Int × (List Int)) (e89 : Int) (s : sumW_b89T) (r : sumW_b89T) (h : sumW_b89 n c x66 q pos ln o3_0 o4_0 y1 e89 s = some r) : TrA Tryd.prog GG (Fence.wide.inRound l) (some B) 9 N (RndQ 9 [] 0 (sumW_b89_H c x66 q pos ln o3_0 o4_0 y1 r)) (rgA Tryd.f42 89) (rgB Tryd.f42 89) ⟨frm 129 [(1, .ref 2 0), (3, .ref 3 0), (4, .ref 4 0), (10, .ref 5 0), (11, .ref 6 0), (12, .ref 7 0), (64, .ints c.cells), (65, .int .i64 ((c.cells.length : Nat) : Int)), (66, .int .i64 x66), (89, .it 8), (90, .int .i64 e89)], sumW_b89_H c x66 q pos ln o3_0 o4_0 y1 s⟩ := by
  have hX : HX (Fence.wide.inRound l) Tryd.prog := ⟨FOk.round l, by kernel_rfl⟩
  unfold sumW_b89 at h
  cases s with
  | s0 r89s0_1 =>
    have h : sumW_b89_e0 n c x66 q pos ln o3_0 o4_0 y1 e89 r89s0_1 = some r := h
    unfold sumW_b89_e0 at h
    refine TrA.g hX sch_sumW 6 [1, 2, 3, 4, 10, 11, 12, 13] [0, 1, 2, 3, 4, 5, 6, 7, 8] .e (frm 129 [(1, .ref 2 0), (3, .ref 3 0), (4, .ref 4 0), (10, .ref 5 0), (11, .ref 6 0), (12, .ref 7 0), (13, .int .i64 e89)]) (hp_sumW_9 c q pos ln r89s0_1 o3_0 o4_0 x66 y1) (by kernel_rfl) ?_
    intro N
    obtain ⟨⟨b89_g0, b89_g1, b89_g2⟩, h⟩ := guardSome h
    rcases bifSome h with ⟨b89_c0, h⟩ | ⟨b89_c0, h⟩
    · obtain ⟨b89_g3, h⟩ := guardSome h
      obtain ⟨b89_y1, hb89_y1, h⟩ := bindSome h
      cases h
      exact TrK.r hX sch_sumW 13 [0, 1, 2, 3, 4, 5, 6, 7, 8] [([], (tgt_sumW_10 c q pos ln b89_y1 o3_0 o4_0 x66 y1))] (.g b89_g0 <| .g s_sumW_17 <| .o 101 (wr64 b89_g1) <| .o 103 (wr64 b89_g2) <| .o 109 (DLe.bool b89_c0) <| .g s_sumW_18 <| .g b89_g3 <| .c (ES.emC (loseW_ok (c.cells.getD ((x66).toNat) 0) (IntKind.i64.wrap (1 * 2 ^ (e89).toNat)) c q pos ln r89s0_1 hb89_y1) [0, 1] (hp_sumW_9 c q pos ln r89s0_1 o3_0 o4_0 x66 y1) (by kernel_rfl) (by kernel_rfl)) <| .g (Eq.refl (tgt_sumW_10 c q pos ln b89_y1 o3_0 o4_0 x66 y1)) <| .e) rfl (by kernel_rfl)
    · obtain ⟨⟨b89_g3, b89_g4⟩, h⟩ := guardSome h
      rcases bifSome h with ⟨b89_c1, h⟩ | ⟨b89_c1, h⟩
      · obtain ⟨b89_g5, h⟩ := guardSome h
        obtain ⟨b89_y1, hb89_y1, h⟩ := bindSome h
        cases h
        exact TrK.r hX sch_sumW 13 [0, 1, 2, 3, 4, 5, 6, 7, 8] [([], (tgt_sumW_10 c q pos ln b89_y1 o3_0 o4_0 x66 y1))] (.g b89_g0 <| .g s_sumW_17 <| .o 101 (wr64 b89_g1) <| .o 103 (wr64 b89_g2) <| .o 109 (DLe.bool b89_c0) <| .o 113 (wr64 b89_g3) <| .o 115 (wr64 b89_g4) <| .o 121 (DLe.bool b89_c1) <| .g s_sumW_18 <| .g b89_g5 <| .c (ES.emC (loseW_ok (c.cells.getD ((x66).toNat) 0) (IntKind.i64.wrap (1 * 2 ^ (e89).toNat)) c q pos ln r89s0_1 hb89_y1) [0, 1] (hp_sumW_9 c q pos ln r89s0_1 o3_0 o4_0 x66 y1) (by kernel_rfl) (by kernel_rfl)) <| .g (Eq.refl (tgt_sumW_10 c q pos ln b89_y1 o3_0 o4_0 x66 y1)) <| .e) rfl (by kernel_rfl)
      · cases h
        exact TrK.r hX sch_sumW 13 [0, 1, 2, 3, 4, 5, 6, 7, 8] [] (.g b89_g0 <| .g s_sumW_17 <| .o 101 (wr64 b89_g1) <| .o 103 (wr64 b89_g2) <| .o 109 (DLe.bool b89_c0) <| .o 113 (wr64 b89_g3) <| .o 115 (wr64 b89_g4) <| .o 121 (DLe.bool b89_c1) <| .e) rfl (by kernel_rfl)


inductive sumWPt where
  | l1 (x21 : Int) (o1 : List Int) (o3_0 o4_0 : Int)
  | l2 (x66 : Int) (o1 : List Int) (o3_0 o4_0 : Int)
def sumW_l1 (n : Nat) (self : sumWPt → Option (Bool × (List Int))) (c : ConsD) (q : ProbD) (pos : List Int) (ln : Nat) (lost : List Int) (x21 : Int) (o1 : List Int) (o3_0 o4_0 : Int) : Option (Bool × (List Int)) :=
  bif (decide (x21 < ((c.cells.length : Nat) : Int))) then
   if ((0 : Int) ≤ x21 ∧ x21 < ((c.cells.length : Nat) : Int)) ∧ ((0 : Int) ≤ (c.cells.getD ((x21).toNat) 0) ∧ (c.cells.getD ((x21).toNat) 0) < ((pos.length : Nat) : Int)) then
    (endsW n (pos.getD ((c.cells.getD ((x21).toNat) 0).toNat) 0) c q pos ln o1).bind fun y1 =>
     if R64 (o3_0 + y1.1) ∧ R64 (o4_0 + y1.2.1) ∧ R64 (x21 + 1) then
      self (.l1 (x21 + 1) y1.2.2 (o3_0 + y1.1) (o4_0 + y1.2.1))
     else none
   else none
  else
   bif (decide (o3_0 > c.hi)) then
    some (false, o1)
   else
    bif (decide (o4_0 < c.lo)) then
     some (false, o1)
    else
     self (.l2 0 o1 o3_0 o4_0)
def sumW_l2 (n : Nat) (self : sumWPt → Option (Bool × (List Int))) (c : ConsD) (q : ProbD) (pos : List Int) (ln : Nat) (lost : List Int) (x66 : Int) (o1 : List Int) (o3_0 o4_0 : Int) : Option (Bool × (List Int)) :=
  bif (decide (x66 < ((c.cells.length : Nat) : Int))) then
   if ((0 : Int) ≤ x66 ∧ x66 < ((c.cells.length : Nat) : Int)) ∧ ((0 : Int) ≤ (c.cells.getD ((x66).toNat) 0) ∧ (c.cells.getD ((x66).toNat) 0) < ((pos.length : Nat) : Int)) then
    (endsW n (pos.getD ((c.cells.getD ((x66).toNat) 0).toNat) 0) c q pos ln o1).bind fun y1 =>
     if (0 : Int) ≤ (pos.getD ((c.cells.getD ((x66).toNat) 0).toNat) 0) ∧ (pos.getD ((c.cells.getD ((x66).toNat) 0).toNat) 0) < 9223372036854775808 then
      (foldO (sumW_b89 n c x66 q pos ln o3_0 o4_0 y1) (symsI (pos.getD ((c.cells.getD ((x66).toNat) 0).toNat) 0)) (.s0 y1.2.2)).bind fun y2 =>
       match y2 with
       | .s0 y2_0_0 =>
        if R64 (x66 + 1) then
         self (.l2 (x66 + 1) y2_0_0 o3_0 o4_0)
        else none
     else none
   else none
  else
   some (true, o1)
def sumW_l0 (n : Nat) (self : sumWPt → Option (Bool × (List Int))) (c : ConsD) (q : ProbD) (pos : List Int) (ln : Nat) (lost : List Int) : Option (Bool × (List Int)) :=
  self (.l1 0 lost 0 0)
def sumW_m (c : ConsD) (q : ProbD) (pos : List Int) (ln : Nat) (lost : List Int) : Nat → sumWPt → Option (Bool × (List Int))
  | 0, _ => none
  | n + 1, .l1 x21 o1 o3_0 o4_0 => sumW_l1 n (sumW_m c q pos ln lost n) c q pos ln lost x21 o1 o3_0 o4_0
  | n + 1, .l2 x66 o1 o3_0 o4_0 => sumW_l2 n (sumW_m c q pos ln lost n) c q pos ln lost x66 o1 o3_0 o4_0
def sumW (n : Nat) (c : ConsD) (q : ProbD) (pos : List Int) (ln : Nat) (lost : List Int) : Option (Bool × (List Int)) := sumW_l0 n (sumW_m c q pos ln lost n) c q pos ln lost
/-- What the points stand for. -/
def sumW_at (n : Nat) (B : Nat) (N : Yard Tryd.prog GG 2) (c : ConsD) (q : ProbD) (pos : List Int) (ln : Nat) (lost : List Int) (r : Bool × (List Int)) : sumWPt → Prop
  | .l1 x21 o1 o3_0 o4_0 => ∀ m0 : Nat, n ≤ m0 → TrK Tryd.prog GG Fence.wide (some B) 2 N (Fin Tryd.prog Tryd.f42 2 (.bool r.1) [some (.cells (consC c ++ probC q ++ [.ints pos, .msl 1 1 0 ln])), some (.ints r.2)]) (toN m0 (atNC (bodyC Tryd.f42) 0 [])) ⟨frm 129 [(1, .ref 2 0), (3, .ref 3 0), (4, .ref 4 0), (19, .ints c.cells), (20, .int .i64 ((c.cells.length : Nat) : Int)), (21, .int .i64 x21)], [some (.cells (consC c ++ probC q ++ [.ints pos, .msl 1 1 0 ln])), some (.ints o1), some (.cells [.ref 0 0]), some (.cells [.int .i64 o3_0]), some (.cells [.int .i64 o4_0])]⟩
  | .l2 x66 o1 o3_0 o4_0 => ∀ m0 : Nat, n ≤ m0 → TrK Tryd.prog GG Fence.wide (some B) 2 N (Fin Tryd.prog Tryd.f42 2 (.bool r.1) [some (.cells (consC c ++ probC q ++ [.ints pos, .msl 1 1 0 ln])), some (.ints r.2)]) (toN m0 (atNC (bodyC Tryd.f42) 2 [])) ⟨frm 129 [(1, .ref 2 0), (3, .ref 3 0), (4, .ref 4 0), (64, .ints c.cells), (65, .int .i64 ((c.cells.length : Nat) : Int)), (66, .int .i64 x66)], [some (.cells (consC c ++ probC q ++ [.ints pos, .msl 1 1 0 ln])), some (.ints o1), some (.cells [.ref 0 0]), some (.cells [.int .i64 o3_0]), some (.cells [.int .i64 o4_0])]⟩
set_option maxRecDepth 100000 in
set_option maxHeartbeats 4000000 in
theorem sumW_p1 (n B : Nat) (N : Yard Tryd.prog GG 2) (self : sumWPt → Option (Bool × (List Int))) (c : ConsD) (q : ProbD) (pos : List Int) (ln : Nat) (lost : List Int) (hself : ∀ pt r, self pt = some r → sumW_at n B N c q pos ln lost r pt) (x21 : Int) (o1 : List Int) (o3_0 o4_0 : Int) (r : Bool × (List Int)) (h : sumW_l1 n self c q pos ln lost x21 o1 o3_0 o4_0 = some r) : sumW_at (n + 1) B N c q pos ln lost r (.l1 x21 o1 o3_0 o4_0) := by
  have hX : HX Fence.wide Tryd.prog := ⟨FOk.wide, by kernel_rfl⟩
  intro m0 hm0
  refine TrK.round hm0 (by kernel_rfl) fun m0 hm0 => ?_
  unfold sumW_l1 at h
  rcases bifSome h with ⟨c0, h⟩ | ⟨c0, h⟩
  · obtain ⟨⟨g0, g1⟩, h⟩ := guardSome h
    obtain ⟨y1, hy1, h⟩ := bindSome h
    obtain ⟨⟨g2, g3, g4⟩, h⟩ := guardSome h
    exact TrK.g hX sch_sumW 19 [1, 3, 4, 19, 20, 21, 90] [0, 1, 2, 3, 4] [([], (tgt_sumW_1 y1 c x21 q pos ln o3_0 o4_0)), ([(6, 3)], (tgt_sumW_2 c x21 q pos ln y1 o3_0 o4_0))] (.o 22 (DLe.bool c0) <| .g g0 <| .g s_sumW_5 <| .g g1 <| .c (ES.emC (endsW_ok (pos.getD ((c.cells.getD ((x21).toNat) 0).toNat) 0) c q pos ln o1 hy1) [0, 1] (hp_sumW_0 c q pos ln o1 o3_0 o4_0) (by kernel_rfl) (by kernel_rfl)) <| .g (Eq.refl (tgt_sumW_1 y1 c x21 q pos ln o3_0 o4_0)) <| .g s_sumW_6 <| .o 39 (wr64 g2) <| .o 42 (wr64 g3) <| .g trivial <| .g trivial <| .g (Eq.refl (tgt_sumW_2 c x21 q pos ln y1 o3_0 o4_0)) <| .o 43 (wr64 g4) <| .e) (hself (.l1 (x21 + 1) y1.2.2 (o3_0 + y1.1) (o4_0 + y1.2.1)) r h m0 hm0) (by kernel_rfl) (by kernel_rfl)
  · rcases bifSome h with ⟨c1, h⟩ | ⟨c1, h⟩
    · cases h
      exact TrK.e hX sch_sumW 16 [2] [0, 1] [] (.o 22 (DLe.bool c0) <| .g s_sumW_8 <| .o 50 (DLe.bool c1) <| .e) [] .e (by kernel_rfl)
    · rcases bifSome h with ⟨c2, h⟩ | ⟨c2, h⟩
      · cases h
        exact TrK.e hX sch_sumW 16 [2] [0, 1] [] (.o 22 (DLe.bool c0) <| .g s_sumW_8 <| .o 50 (DLe.bool c1) <| .o 58 (DLe.bool c2) <| .e) [] .e (by kernel_rfl)
      · exact TrK.g hX sch_sumW 19 [1, 3, 4, 64, 65, 66, 90] [0, 1, 2, 3, 4] [] (.o 22 (DLe.bool c0) <| .g s_sumW_8 <| .o 50 (DLe.bool c1) <| .o 58 (DLe.bool c2) <| .e) (TrK.enter n (by kernel_rfl) (hself (.l2 0 o1 o3_0 o4_0) r h n (Nat.le_refl _))) (by kernel_rfl) (by kernel_rfl)
set_option maxRecDepth 100000 in
set_option maxHeartbeats 4000000 in
theorem sumW_p2 (n B : Nat) (N : Yard Tryd.prog GG 2) (self : sumWPt → Option (Bool × (List Int))) (c : ConsD) (q : ProbD) (pos : List Int) (ln : Nat) (lost : List Int) (hself : ∀ pt r, self pt = some r → sumW_at n B N c q pos ln lost r pt) (x66 : Int) (o1 : List Int) (o3_0 o4_0 : Int) (r : Bool × (List Int)) (h : sumW_l2 n self c q pos ln lost x66 o1 o3_0 o4_0 = some r) : sumW_at (n + 1) B N c q pos ln lost r (.l2 x66 o1 o3_0 o4_0) := by
  have hX : HX Fence.wide Tryd.prog := ⟨FOk.wide, by kernel_rfl⟩
  intro m0 hm0
  refine TrK.round hm0 (by kernel_rfl) fun m0 hm0 => ?_
  unfold sumW_l2 at h
  rcases bifSome h with ⟨c0, h⟩ | ⟨c0, h⟩
  · obtain ⟨⟨g0, g1⟩, h⟩ := guardSome h
    obtain ⟨y1, hy1, h⟩ := bindSome h
    obtain ⟨g2, h⟩ := guardSome h
    obtain ⟨y2, hy2, h⟩ := bindSome h
    refine TrK.gS hX sch_sumW 19 [1, 3, 4, 10, 11, 12, 64, 65, 66, 89, 90] [0, 1, 2, 3, 4, 5, 6, 7, 8] [([], (tgt_sumW_4 c x66 q pos ln y1 o3_0 o4_0))] (.o 67 (DLe.bool c0) <| .g g0 <| .g trivial <| .g s_sumW_13 <| .g g1 <| .c (ES.emC (endsW_ok (pos.getD ((c.cells.getD ((x66).toNat) 0).toNat) 0) c q pos ln o1 hy1) [0, 1] (hp_sumW_3 c q pos ln o1 o3_0 o4_0 x66) (by kernel_rfl) (by kernel_rfl)) <| .g trivial <| .g trivial <| .g (Eq.refl (tgt_sumW_4 c x66 q pos ln y1 o3_0 o4_0)) <| .g trivial <| .g trivial <| .g (Eq.refl (tgt_sumW_4 c x66 q pos ln y1 o3_0 o4_0)) <| .c (ES.emC (endsW_ok (pos.getD ((c.cells.getD ((x66).toNat) 0).toNat) 0) c q pos ln o1 hy1) [0, 1] (hp_sumW_5 c q pos ln o1 o3_0 o4_0 x66) (by kernel_rfl) (by kernel_rfl)) <| .g trivial <| .g trivial <| .g (Eq.refl (tgt_sumW_4 c x66 q pos ln y1 o3_0 o4_0)) <| .c (ES.emC (endsW_ok (pos.getD ((c.cells.getD ((x66).toNat) 0).toNat) 0) c q pos ln o1 hy1) [0, 1] (hp_sumW_6 c q pos ln o1 o3_0 o4_0 x66) (by kernel_rfl) (by kernel_rfl)) <| .g trivial <| .g trivial <| .g (Eq.refl (tgt_sumW_4 c x66 q pos ln y1 o3_0 o4_0)) <| .c (ES.emC (endsW_ok (pos.getD ((c.cells.getD ((x66).toNat) 0).toNat) 0) c q pos ln o1 hy1) [0, 1] (hp_sumW_5 c q pos ln o1 o3_0 o4_0 x66) (by kernel_rfl) (by kernel_rfl)) <| .g trivial <| .g trivial <| .g (Eq.refl (tgt_sumW_4 c x66 q pos ln y1 o3_0 o4_0)) <| .c (ES.emC (endsW_ok (pos.getD ((c.cells.getD ((x66).toNat) 0).toNat) 0) c q pos ln o1 hy1) [0, 1] (hp_sumW_6 c q pos ln o1 o3_0 o4_0 x66) (by kernel_rfl) (by kernel_rfl)) <| .g trivial <| .g trivial <| .g (Eq.refl (tgt_sumW_4 c x66 q pos ln y1 o3_0 o4_0)) <| .g s_sumW_14 <| .g g1 <| .c (symbols_it g2 (hp_sumW_7 c q pos ln y1 o3_0 o4_0 x66)) <| .e) [] .e (atT (bodyC Tryd.f42) 89 [m0]) (frm 129 [(1, .ref 2 0), (3, .ref 3 0), (4, .ref 4 0), (10, .ref 5 0), (11, .ref 6 0), (12, .ref 7 0), (64, .ints c.cells), (65, .int .i64 ((c.cells.length : Nat) : Int)), (66, .int .i64 x66), (89, .it 8)]) (hp_sumW_8 c q pos ln y1 o3_0 o4_0 x66) (by kernel_rfl) (by kernel_rfl) ?_
    refine TrK.rg0 (.inl rfl) 8 89 #[90] encI 9 hy2 (fun l B N e s r hs => sumW_b89_ok l B N n c x66 q pos ln o3_0 o4_0 y1 e s r hs) (by kernel_rfl) (by kernel_rfl) (by kernel_rfl) (fun _ => rfl) (by kernel_rfl) (by kernel_rfl) (by kernel_rfl) (by kernel_rfl) ?_
    cases y2 with
    | s0 y2_0_0 =>
      dsimp only at h
      obtain ⟨g3, h⟩ := guardSome h
      exact TrK.g hX sch_sumW 8 [1, 3, 4, 64, 65, 66, 90] [0, 1, 2, 3, 4] [] (.o 128 (wr64 g3) <| .e) (hself (.l2 (x66 + 1) y2_0_0 o3_0 o4_0) r h m0 hm0) (by kernel_rfl) (by kernel_rfl)
  · cases h
    exact TrK.e hX sch_sumW 12 [2] [0, 1] [] (.o 67 (DLe.bool c0) <| .e) [] .e (by kernel_rfl)
theorem sumW_all (B : Nat) (N : Yard Tryd.prog GG 2) (c : ConsD) (q : ProbD) (pos : List Int) (ln : Nat) (lost : List Int) : ∀ (n : Nat) (pt : sumWPt) (r : Bool × (List Int)), sumW_m c q pos ln lost n pt = some r → sumW_at n B N c q pos ln lost r pt
  | 0, _, _, h => by cases h
  | n + 1, .l1 x21 o1 o3_0 o4_0, r, h => sumW_p1 n B N (sumW_m c q pos ln lost n) c q pos ln lost (sumW_all B N c q pos ln lost n) x21 o1 o3_0 o4_0 r h
  | n + 1, .l2 x66 o1 o3_0 o4_0, r, h => sumW_p2 n B N (sumW_m c q pos ln lost n) c q pos ln lost (sumW_all B N c q pos ln lost n) x66 o1 o3_0 o4_0 r h
set_option maxRecDepth 100000 in
set_option maxHeartbeats 4000000 in
theorem sumW_ok {n : Nat} (c : ConsD) (q : ProbD) (pos : List Int) (ln : Nat) (lost : List Int) {r : Bool × (List Int)} (h : sumW n c q pos ln lost = some r) : ES Tryd.prog GG 42 [.ref 0 0] [some (.cells (consC c ++ probC q ++ [.ints pos, .msl 1 1 0 ln])), some (.ints lost)] (.bool r.1) [some (.cells (consC c ++ probC q ++ [.ints pos, .msl 1 1 0 ln])), some (.ints r.2)] false := by
  have hX : HX Fence.wide Tryd.prog := ⟨FOk.wide, by kernel_rfl⟩
  refine ES.of_trk Tryd.func42 (by kernel_rfl) (by kernel_rfl) (noIterB (by kernel_rfl)) (fun e => by cases e) fun B N => ?_
  have hself := sumW_all B N c q pos ln lost n
  unfold sumW at h
  generalize sumW_m c q pos ln lost n = self at h hself
  unfold sumW_l0 at h
  exact TrK.g hX sch_sumW 13 [1, 3, 4, 19, 20, 21, 90] [0, 1, 2, 3, 4] [] (.g trivial <| .g trivial <| .e) (TrK.enter n (by kernel_rfl) (hself (.l1 0 lost 0 0) r h n (Nat.le_refl _))) (by kernel_rfl) (by kernel_rfl)


end Go.Proofs.YtekkngkphejfcaaDoor
