/- The trailing zeros of a set; the iterator over a set's symbols. -/
import Derived.Test.YtekkngkphejfcaaDoorDglob
import Derived.LoopIn
import Derived.Test.YtekkngkphejfcaaDoorDiter
namespace Go.Proofs.YtekkngkphejfcaaDoor
open Go.RowKit

theorem tz64_core (x k idx : Nat) (w : World) (hx0 : ((x : Int) == 0) = false)
    (key : IntKind.u64.wrap (bits BinOp.and IntKind.u64 (x : Int) (IntKind.u64.wrap (-(x : Int))) * 285870213051353865) / 288230376151711744 = (idx : Int))
    (hi : idx < 64) (hk : k < 64) (hcell : w.cell? ⟨1, idx, none⟩ = some (.int .u8 k)) :
    Calls Tryd.prog 70 #[.int .u64 x] w fun e w' => e = .returned (.int .i64 k) ∧ w = w' := by
  go_enter Tryd.func70, Tryd.ntmps70
  go_wp2_with (simp only [key])
  go_ret
  exact ⟨rfl, rfl⟩
theorem tz64_c (x : Nat) (hx : x < 18446744073709551616) (hx0 : x ≠ 0) (w : World) (hT : Tab w) :
    Calls Tryd.prog 70 #[.int .u64 x] w fun e w' => e = .returned (.int .i64 (Lib.ctz 64 x)) ∧ w = w' := by
  obtain ⟨hlow, hk⟩ := Lib.lowest_bit 64 x hx0 hx
  obtain ⟨hi, htab⟩ := Lib.deBruijn64_at _ hk
  have hcell := hT _ hi
  rw [htab] at hcell
  exact tz64_core x _ _ w (by simp; omega) (tz64_key x _ hx hx0 hlow) hi hk hcell
theorem tz_c (x : Nat) (hx : x < 18446744073709551616) (hx0 : x ≠ 0) (w : World) (hT : Tab w) :
    Calls Tryd.prog 51 #[.int .u64 x] w fun e w' => e = .returned (.int .i64 (Lib.ctz 64 x)) ∧ w = w' := by
  have h1 := tz64_c x hx hx0 w hT
  go_enter Tryd.func51, Tryd.ntmps51
  go_wp2_with (go_at_call 70; refine h1.mono ?_; rintro e w' ⟨rfl, rfl⟩)
  go_ret
  exact ⟨rfl, rfl⟩

/-- The symbols of a set, from the least. -/
def symsOf (x : Nat) : List Nat := (List.range 64).filter fun s => x.testBit s
theorem symsOf_zero : symsOf 0 = [] := by simp [symsOf]
theorem low_bits (k m s : Nat) : (2 ^ k * (2 * m + 1)).testBit s = (decide (k ≤ s) && (2 * m + 1).testBit (s - k)) := by
  rw [Nat.mul_comm, Nat.testBit_mul_two_pow]
theorem odd_bit (m s : Nat) : (2 * m + 1).testBit s = (decide (s = 0) || (2 * m).testBit s) := by
  cases s with
  | zero => simp [Nat.testBit_zero]
  | succ s => simp [Nat.testBit_succ]; congr 1; omega
theorem even_bit0 (m : Nat) : (2 * m).testBit 0 = false := by simp [Nat.testBit_zero]

theorem ranges64 : ∀ k, k < 64 → List.range 64 = List.range k ++ k :: List.range' (k + 1) (63 - k) := by decide +kernel
theorem symsOf_step (x : Nat) (hx : x < 18446744073709551616) (hx0 : x ≠ 0) : symsOf x = Lib.ctz 64 x :: symsOf (x &&& (x - 1)) := by
  have hc : Lib.ctz 64 x = Lib.ctzFrom 64 x := by simp [Lib.ctz, hx0]
  obtain ⟨m, hm, hk⟩ := Lib.ctzFrom_spec 64 x (by omega) (by simpa using hx)
  rw [hc]
  generalize Lib.ctzFrom 64 x = k at *
  have hb : ∀ s, x.testBit s = (decide (k ≤ s) && (decide (s - k = 0) || (2 * m).testBit (s - k))) := fun s => by rw [hm, low_bits, odd_bit]
  have hy : ∀ s, (x &&& (x - 1)).testBit s = (x.testBit s && decide (s ≠ k)) := by
    intro s
    have hp : 0 < 2 ^ k := Nat.two_pow_pos k
    have hx1 : x - 1 = 2 ^ k * (2 * m) + (2 ^ k - 1) := by
      rw [hm, Nat.mul_add, Nat.mul_one]; omega
    have hb1 : (x - 1).testBit s = if s < k then (2 ^ k - 1).testBit s else (2 * m).testBit (s - k) := by
      rw [hx1, Nat.testBit_two_pow_mul_add _ (by omega)]
    rw [Nat.testBit_and, hb1, hb]
    by_cases h1 : s < k
    · rw [decide_eq_false (by omega : ¬ k ≤ s)]; simp
    · rw [if_neg h1]
      by_cases h2 : s = k
      · subst h2; simp
      · rw [decide_eq_true (by omega : k ≤ s), decide_eq_false (by omega : ¬ s - k = 0)]; simp [h2]
  unfold symsOf
  have hr : List.range 64 = List.range k ++ k :: List.range' (k + 1) (63 - k) := ranges64 k hk
  rw [hr]
  simp only [List.filter_append, List.filter_cons]
  have h1 : ∀ y : Nat, (∀ s, s < k → y.testBit s = false) → (List.range k).filter (fun s => y.testBit s) = [] := fun y h => by
    rw [List.filter_eq_nil_iff]; intro s hs; simp [h s (List.mem_range.1 hs)]
  rw [h1 x (fun s hs => by rw [hb]; simp; omega), h1 (x &&& (x - 1)) (fun s hs => by rw [hy, hb]; simp; omega)]
  have h2 : x.testBit k = true := by rw [hb]; simp
  have h3 : (x &&& (x - 1)).testBit k = false := by rw [hy]; simp
  simp only [h2, h3, List.nil_append, if_true, Bool.false_eq_true, if_false]
  congr 1
  apply List.filter_congr
  intro s hs
  rw [hy]
  have := List.mem_range'_1.1 hs
  simp; omega

theorem and_pred_nat (x : Nat) (hx : x < 9223372036854775808) (hx0 : x ≠ 0) : bits .and .i64 (x : Int) ((x : Int) - 1) = ((x &&& (x - 1) : Nat) : Int) := by
  have e : ((x : Int) - 1) = ((x - 1 : Nat) : Int) := by omega
  have hlt : x &&& (x - 1) ≤ x := Nat.and_le_left
  rw [e]
  have h1 : (BitVec.ofInt 64 (x : Int)).toNat = x := by
    rw [BitVec.ofInt_natCast, BitVec.toNat_ofNat]; exact Nat.mod_eq_of_lt (by omega)
  have h2 : (BitVec.ofInt 64 ((x - 1 : Nat) : Int)).toNat = x - 1 := by
    rw [BitVec.ofInt_natCast, BitVec.toNat_ofNat]; exact Nat.mod_eq_of_lt (by omega)
  show IntKind.i64.wrap ((BitVec.ofInt 64 (x : Int) &&& BitVec.ofInt 64 ((x - 1 : Nat) : Int)).toNat : Int) = _
  rw [BitVec.toNat_and, h1, h2]
  have hm : ((x &&& (x - 1) : Nat) : Int) % 2 ^ 64 = ((x &&& (x - 1) : Nat) : Int) := by omega
  simp only [IntKind.wrap, IntKind.signed, IntKind.bits, hm]
  rw [if_neg (by rw [Bool.true_and, decide_eq_true_eq]; omega)]
theorem wrap_u64_nat (x : Nat) (hx : x < 9223372036854775808) : IntKind.u64.wrap (x : Int) = x := by rw [IntKind.wrap_u64]; omega
def setIn (w : World) (b o : Nat) : Nat := match w.cell? ⟨b, o, none⟩ with
  | some (.int _ x) => x.toNat
  | _ => 0
def symEnc (s : Nat) : Array Value := #[.int .i64 s]

set_option maxRecDepth 100000 in
set_option maxHeartbeats 4000000 in
theorem symbols_iter (set b o : Nat) (w : World) (hset : set < 9223372036854775808) (hT : Tab w) (hb : w.cell? ⟨b, o, none⟩ = some (.int .i64 set)) (hfz : w.frozen? ⟨b, o, none⟩ = false) (hbt : b ≠ 1) :
    Iter Tryd.prog 50 #[.pointer (some ⟨b, o, none⟩)] ((symsOf set).map symEnc) (fun k => k = b) (fun k => k = 1) w := by
  intro l J Jx G W hJ hJx hU hG hGlt hY h0
  have HY := Lib.hid hY
  clear hY
  have hGb : G b := hG b rfl
  have hbW : W.cell? ⟨b, o, none⟩ = some (.int .i64 set) := hU.cell (fun h => h (.inl rfl)) hb
  have hfW : W.frozen? ⟨b, o, none⟩ = false := by
    rw [World.frozen?_of_block (hU.block b (World.block_lt_of_cell? w _ hb) (fun h => h (.inl rfl)))]; exact hfz
  have hTW : Tab W := fun j hj => hU.cell (fun h => h (.inr rfl)) (hT j hj)
  refine callsIn_of_wp Tryd.func50 rfl trivial ?_ rfl
  simp only [Tryd.ntmps50, List.size_toArray, List.length_cons, List.length_nil, Nat.reduceAdd, Nat.reduceSub, Array.replicate_succ, Array.replicate_zero, List.push_toArray, List.append_toArray, List.nil_append, List.cons_append]
  gi_wp2
  gi_loopw [3, 4, 5, 6, 7, 8, 9, 10, 11, 12, 13, 14] (fun _ _ _ _ _ _ _ _ _ _ _ _ wr => ∃ (i x : Nat), W.heap.size ≤ wr.heap.size ∧ x < 9223372036854775808 ∧ i ≤ (symsOf set).length ∧ Hid ((symsOf set).drop i = symsOf x) ∧ Hid (J i G wr) ∧ wr.cell? ⟨b, o, none⟩ = some (.int .i64 x) ∧ wr.frozen? ⟨b, o, none⟩ = false ∧ Hid (Tab wr))
    (fun _ _ _ _ _ _ _ _ _ _ _ _ wr => setIn wr b o)
  case atStart => exact ⟨0, set, Nat.le_refl _, hset, Nat.zero_le _, Lib.hid rfl, Lib.hid h0, hbW, hfW, Lib.hid hTW⟩
  case round =>
    obtain ⟨i, x, hsz, hx, hin, hd, hj, hc, hf, ht⟩ := hrel
    by_cases hx0 : x = 0
    · subst hx0
      have hil : i = (symsOf set).length := by
        have := congrArg List.length hd.out
        rw [List.length_drop, symsOf_zero, List.length_nil] at this
        omega
      gi_wp2
      go_end0
      exact ⟨⟨_, rfl⟩, .inl ⟨G, hil ▸ hj.out⟩⟩
    · have N0 : ((x : Int) == 0) = false := by simp [hx0]
      have hdl : (symsOf set).drop i = Lib.ctz 64 x :: symsOf (x &&& (x - 1)) := by rw [hd.out, symsOf_step x (by omega) hx0]
      have hil : i < (symsOf set).length := by
        rcases Nat.lt_or_ge i (symsOf set).length with h | h
        · exact h
        · rw [List.drop_eq_nil_of_le h] at hdl; cases hdl
      have hie : (symsOf set)[i] = Lib.ctz 64 x := by
        have := List.drop_eq_getElem_cons hil
        rw [hdl] at this; injection this with h1 h2; exact h1.symm
      obtain ⟨fn, tmps, asg, body, hy, hR⟩ := HY.out i (symEnc (Lib.ctz 64 x)) G wr (by rw [List.getElem?_map, List.getElem?_eq_getElem hil, hie]; rfl) hj.out
      have hR' := Lib.hid hR
      clear hR
      unfold symEnc at hy
      have htz := Lib.hid (tz_c x (by omega) hx0 wr ht.out)
      have hdl' := Lib.hid hdl
      clear hdl hd
      gi_wp2_with (first | refine ⟨trivial, rfl, ?_⟩ | (gi_at_call 51; refine (callsIn_wide.2 htz.out).mono ?_; rintro e w' ⟨rfl, rfl⟩))
      refine ⟨rfl, hR'.out.mono ?_⟩
      rintro e W1 ⟨hu1, (⟨rfl, hj1⟩ | ⟨rfl, hx1⟩)⟩
      · have hc1 : W1.cell? ⟨b, o, none⟩ = some (.int .i64 x) := hu1.cell (fun h => h (.inl hGb)) hc
        have hf1 : W1.frozen? ⟨b, o, none⟩ = false := by
          rw [World.frozen?_of_block (hu1.block b (World.block_lt_of_cell? wr _ hc) (fun h => h (.inl hGb)))]; exact hf
        have ht1 : Tab W1 := fun j hj => hu1.cell (fun h => h (.inr rfl)) (ht.out j hj)
        have hs1 : Upd G W1 (W1.setCell ⟨b, o, none⟩ (.int .i64 ((x &&& (x - 1) : Nat) : Int))) := (Upd.refl G W1).setCell (fun _ => hGb) _
        have hsz2 := Nat.le_trans hsz (Nat.le_trans hu1.size hs1.size)
        have hj2 := Lib.hid (hJ _ _ _ _ _ hj1 hs1 (fun k h => .inl h) (fun k h => Nat.lt_of_lt_of_le (hGlt k h) hsz2))
        have ht2 : Hid (Tab (W1.setCell ⟨b, o, none⟩ (.int .i64 ((x &&& (x - 1) : Nat) : Int)))) := Lib.hid fun j hj =>
          ((Upd.refl (fun k => k = b) W1).setCell (fun _ => rfl) _).cell (fun e => hbt e.symm) (ht1 j hj)
        have hlt : x &&& (x - 1) < x := Nat.lt_of_le_of_lt Nat.and_le_right (by omega)
        clear hs1 ht1
        gi_wp2
        rw [and_pred_nat x hx hx0]
        have hc2 : (W1.setCell ⟨b, o, none⟩ (.int .i64 ((x &&& (x - 1) : Nat) : Int))).cell? ⟨b, o, none⟩ = some (.int .i64 ((x &&& (x - 1) : Nat) : Int)) := World.cell?_setCell_same' W1 _ _ (by rw [hc1]; rfl)
        refine ⟨⟨_, _, _, _, _, _, _, _, _, _, _, _, ⟨i + 1, x &&& (x - 1), hsz2, by omega, hil, Lib.hid ?_, hj2, hc2, ?_, ht2⟩, rfl⟩, ?_⟩
        · rw [← List.drop_drop, hdl'.out]; rfl
        · rw [World.frozen?_setCell]; exact hf1
        · unfold setIn
          rw [hc2, hc]
          show ((x &&& (x - 1) : Nat) : Int).toNat < (x : Int).toNat
          omega
      · gi_wp2
        refine bodyPost_ret (results_none rfl _ _ _) rfl ?_
        exact ⟨⟨_, rfl⟩, .inr ⟨G, hx1⟩⟩
def symsI (x : Int) : List Int := (symsOf x.toNat).map fun (s : Nat) => (s : Int)
theorem enc_symsI (x : Int) : (symsI x).map encI = (symsOf x.toNat).map symEnc := by
  unfold symsI
  rw [List.map_map]
  rfl
theorem symbols_law {x : Int} (hx : (0 : Int) ≤ x ∧ x < 9223372036854775808) (w : World) (b o : Nat) (u : Value) (hg : GG.gi w) (hng : GG.ng ≤ b) (hb : ∃ cs t, w.heap[b]? = some (.cells cs t (0, 0))) (hc : w.cell? ⟨b, o, none⟩ = some u) (hr : u = .int .i64 x) :
    Iter Tryd.prog 50 #[.pointer (some ⟨b, o, none⟩)] ((symsI x).map encI) (fun k => k = b) (fun k => k = 1) w := by
  rw [enc_symsI]
  obtain ⟨cs, t, hb⟩ := hb
  have hng : 2 ≤ b := hng
  refine symbols_iter x.toNat b o w (by omega) hg.1 ?_ ?_ (by omega)
  · rw [hc, hr]; congr 2; omega
  · unfold World.frozen?; simp [hb]
end Go.Proofs.YtekkngkphejfcaaDoor
