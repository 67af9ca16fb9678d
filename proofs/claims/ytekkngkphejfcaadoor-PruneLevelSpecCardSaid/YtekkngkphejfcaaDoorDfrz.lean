/- A row that nobody writes any more becomes a list, also in the middle of a region. -/
import Derived.Test.YtekkngkphejfcaaDoorDpure
import Derived.Sort.LoopGhostIn
namespace Go.Proofs.YtekkngkphejfcaaDoor
open Go.RowKit

def allP : List Prop → Prop
  | [] => True
  | p :: ps => p ∧ allP ps
theorem allP_append {l l' : List Prop} : allP (l ++ l') ↔ allP l ∧ allP l' := by
  induction l with
  | nil => simp [allP]
  | cons p ps ih => simp [allP, ih, and_assoc]

/-- One value of the view says no more than another. -/
def DLe (d d' : DV) : Prop := ∀ (M : Nat → Prop) (w : World) (ρ : List Place) (v : Value), RepV M w d ρ v → RepV M w d' ρ v

section
variable {P : Program} {Γ : Glo} {N : Nat → Prop}
theorem out_iff {w : World} {M M' : Nat → Prop} (h : ∀ b, M' b → M b) (ρ : List Place) : Outl M w ρ M' w ρ := ⟨fun _ _ _ _ => rfl, fun b hb => .inl (h b hb), fun _ _ h => h⟩
/-- A row that nobody writes any more becomes a list. -/
def frzV : DO → Option (Nat × Nat × DV)
  | .ints l => some (1, l.length, .ints l)
  | .bools l => some (1, l.length, .bools l)
  | .arr m n f => some (m, n, .sl m n f)
  | _ => none
def frzD (k m : Nat) (v : DV) : DV → DV
  | .msl k' m' off n => if k' = k ∧ m' = m ∧ off = 0 then v else .msl k' m' off n
  | d => d
def frzC (k m n : Nat) : DV → List Prop
  | .msl k' m' off n' => if k' = k ∧ m' = m ∧ off = 0 then [n' = n] else []
  | _ => []
def frzO (k m : Nat) (v : DV) : Option DO → Option DO
  | some (.cells l) => some (.cells (l.map (frzD k m v)))
  | o => o
def frzCO (k m n : Nat) : Option DO → List Prop
  | some (.cells l) => l.flatMap (frzC k m n)
  | _ => []
def frzS (k m : Nat) (v : DV) (S : St) : St := ⟨S.fr.map (frzD k m v), (S.h.set k none).map (frzO k m v)⟩
theorem allP_mem {l : List DV} {f : DV → List Prop} (h : allP (l.flatMap f)) {d : DV} (hd : d ∈ l) : allP (f d) := by
  induction l with
  | nil => simp at hd
  | cons x l ih =>
    rw [List.flatMap_cons] at h
    obtain ⟨h1, h2⟩ := allP_append.1 h
    rcases List.mem_cons.1 hd with rfl | hd
    · exact h1
    · exact ih h2 hd
theorem allP_memO {l : List (Option DO)} {f : Option DO → List Prop} (h : allP (l.flatMap f)) {d : Option DO} (hd : d ∈ l) : allP (f d) := by
  induction l with
  | nil => simp at hd
  | cons x l ih =>
    rw [List.flatMap_cons] at h
    obtain ⟨h1, h2⟩ := allP_append.1 h
    rcases List.mem_cons.1 hd with rfl | hd
    · exact h1
    · exact ih h2 hd
theorem frzV_rep {M M' : Nat → Prop} {w : World} {ρ : List Place} {p : Place} {o : DO} {m n : Nat} {v : DV} (ho : frzV o = some (m, n, v)) (hr : ObjRep P M w ρ p o) (hN : ¬ M' p.blk) (hM : ∀ b, M' b → M b) {u : Value} {cap : Nat} (hu : u = .slice (some ⟨p.blk, p.off + 0 * m, none⟩) n cap) (h1 : n ≤ cap) (h2 : n ≤ LB) : RepV M' w v ρ u := by
  cases o with
  | cells l => cases ho
  | iter e => cases ho
  | mo x => cases ho
  | ints l =>
    cases ho
    refine ⟨_, cap, hu, h1, h2, fun j hj => ⟨p.blk, p.off, by simp, hN, ?_⟩⟩
    obtain ⟨x, e1, e2⟩ := RowAt.cell hr hj
    rw [e1, e2]
  | bools l =>
    cases ho
    refine ⟨_, cap, hu, h1, h2, fun j hj => ⟨p.blk, p.off, by simp, hN, ?_⟩⟩
    obtain ⟨x, e1, e2⟩ := RowAt.cell hr hj
    rw [e1, e2]
  | arr m n f =>
    cases ho
    refine ⟨_, cap, hu, h1, h2, fun i j hi hj => ?_⟩
    have hlt : i * m + j < n * m := Nat.lt_of_lt_of_le (by rw [Nat.succ_mul]; omega : i * m + j < (i + 1) * m) (Nat.mul_le_mul_right m hi)
    obtain ⟨x, e1, e2⟩ := RowAt.cell hr hlt
    have hm : 0 < m := by omega
    have d1 : (i * m + j) / m = i := by rw [Nat.mul_comm, Nat.mul_add_div hm]; simp [Nat.div_eq_of_lt hj]
    have d2 : (i * m + j) % m = j := by rw [Nat.mul_comm, Nat.mul_add_mod]; exact Nat.mod_eq_of_lt hj
    rw [d1, d2] at e2
    exact ⟨p.blk, p.off, x, by simp, hN, e1, RepV.out _ (out_iff hM []) e2⟩
theorem frzV_foot {M : Nat → Prop} {w : World} {ρ : List Place} {p : Place} {o : DO} {m n : Nat} {v : DV} (ho : frzV o = some (m, n, v)) (hr : ObjRep P M w ρ p o) : p.foot = fun b => b = p.blk := by
  cases o with
  | cells l => cases ho
  | iter e => cases ho
  | mo x => cases ho
  | ints l => exact hr.1
  | bools l => exact hr.1
  | arr m n f => exact hr.1
theorem frz_get {k m : Nat} {v : DV} {h : DH} {i : Nat} {o' : DO} (hi : ((h.set k none).map (frzO k m v))[i]? = some (some o')) : i ≠ k ∧ ∃ o, h[i]? = some (some o) ∧ frzO k m v (some o) = some o' := by
  rw [List.getElem?_map] at hi
  cases hx : (h.set k none)[i]? with
  | none => rw [hx] at hi; cases hi
  | some x =>
    rw [hx] at hi
    have hi : frzO k m v x = some o' := Option.some.inj hi
    cases x with
    | none => cases hi
    | some o => exact ⟨(get_kill hx).1, o, (get_kill hx).2, hi⟩
/-- A state says no more than another, places as they are. -/
def SLp (S S' : St) : Prop := ∀ (P : Program) (Γ : Glo) (N : Nat → Prop) (ρ : List Place) (a : Act) (w : World), Rel P Γ N S ρ a w → Rel P Γ N S' ρ a w ∧ Step S.h ρ w S'.h ρ w
theorem SLp.frz {S : St} (k : Nat) {o : DO} {m n : Nat} {v : DV} (hk : S.h[k]? = some (some o)) (ho : frzV o = some (m, n, v)) (hc : allP (S.fr.flatMap (frzC k m n))) (hc2 : allP (S.h.flatMap (frzCO k m n))) : SLp S (frzS k m v S) := fun P Γ N ρ a w R => by
  obtain ⟨p, hp, hr⟩ := R.hr.obj k _ hk
  have hfoot : p.foot = fun b => b = p.blk := frzV_foot ho hr
  have hMO : ∀ b, MO (frzS k m v S).h ρ b → ∃ i o p', i ≠ k ∧ S.h[i]? = some (some o) ∧ ρ[i]? = some p' ∧ p'.foot b := by
    rintro b ⟨i, o', p', g1, g2, g3⟩
    obtain ⟨e1, o2, e2, _⟩ := frz_get g1
    exact ⟨i, o2, p', e1, e2, g2, g3⟩
  have hN : ¬ MS N (frzS k m v S).h ρ p.blk := by
    rintro (hn | hb)
    · exact (R.hr.cel k _ p p.blk hk hp (by rw [hfoot])).2.1 hn
    · obtain ⟨i, o2, p', e1, e2, g2, g3⟩ := hMO _ hb
      exact R.hr.dis i k _ _ p' p p.blk e1 e2 hk g2 hp g3 (by rw [hfoot])
  have hM : ∀ b, MS N (frzS k m v S).h ρ b → MS N S.h ρ b := fun b hb => hb.imp id fun hb => by
    obtain ⟨i, o2, p', _, e2, g2, g3⟩ := hMO _ hb
    exact ⟨i, o2, p', e2, g2, g3⟩
  have conv : ∀ (d : DV) (u : Value), allP (frzC k m n d) → RepV (MS N S.h ρ) w d ρ u → RepV (MS N (frzS k m v S).h ρ) w (frzD k m v d) ρ u := by
    intro d u hcd hd
    cases d with
    | msl k' m' off n' =>
      simp only [frzC, frzD] at hcd ⊢
      split at hcd
      · rename_i e
        obtain ⟨rfl, rfl, rfl⟩ := e
        rw [if_pos ⟨rfl, rfl, rfl⟩]
        obtain ⟨p', cap, hp', e, g1, g2, _⟩ := hd
        have ep : p' = p := Option.some.inj (hp'.symm.trans hp)
        subst ep
        have en := hcd.1
        subst en
        exact frzV_rep ho hr hN hM e g1 g2
      · rename_i e
        rw [if_neg e]
        exact RepV.out _ (out_iff hM ρ) hd
    | _ => exact RepV.out _ (out_iff hM ρ) hd
  refine ⟨⟨⟨by simp [frzS, R.hr.len], fun i o' hi => ?_, fun i o' p' b g1 g2 g3 => ?_, fun i i' o1 o2 p1 p2 b hne g1 g2 g3 g4 g5 g6 => ?_, R.hr.nlt, R.hr.gi⟩, ⟨by simp [frzS, R.fr.1], fun i hi => ?_⟩⟩, ⟨Upd.refl _ w, fun b hb => .inl ?_⟩⟩
  · obtain ⟨e1, o2, e2, e3⟩ := frz_get hi
    obtain ⟨p', hp', hr'⟩ := R.hr.obj i o2 e2
    refine ⟨p', hp', ?_⟩
    cases o2 with
    | cells l =>
      cases e3
      show RowAt w p' (l.map (frzD k m v)).length _
      rw [List.length_map]
      refine RowAt.out hr' rfl fun j u hj hu => ?_
      have : (l.map (frzD k m v)).getD j .any = frzD k m v (l.getD j .any) := by simp [hj]
      rw [this]
      refine conv _ _ ?_ hu
      have hm1 : some (DO.cells l) ∈ S.h := List.mem_of_getElem? e2
      have := allP_memO hc2 hm1
      exact allP_mem (l := l) this (by simp [hj])
    | ints l => cases e3; exact RowAt.out hr' rfl fun j u _ hu => hu
    | bools l => cases e3; exact RowAt.out hr' rfl fun j u _ hu => hu
    | arr m n f => cases e3; exact RowAt.out hr' rfl fun j u _ hu => RepV.out _ (out_iff hM []) hu
    | iter encs =>
      cases e3
      obtain ⟨gf, lb, Rd, q1, q2, q3, q4⟩ := hr'
      exact ⟨gf, lb, Rd, q1, q2, fun b hb => ⟨fun hm => (q3 b hb).1 (hM b hm), (q3 b hb).2⟩, q4⟩
    | mo x => cases e3; exact hr'
  · obtain ⟨e1, o2, e2, e3⟩ := frz_get g1
    obtain ⟨q1, q2, q3⟩ := R.hr.cel i o2 p' b e2 g2 g3
    exact ⟨q1, q2, q3⟩
  · obtain ⟨e1, o3, e2, _⟩ := frz_get g1
    obtain ⟨e1', o4, e2', _⟩ := frz_get g2
    exact R.hr.dis i i' o3 o4 p1 p2 b hne e2 e2' g3 g4 g5 g6
  · have hi' : i < S.fr.length := by simpa [frzS] using hi
    have : (frzS k m v S).fr.getD i .any = frzD k m v (S.fr.getD i .any) := by simp [frzS, hi']
    rw [this]
    refine conv _ _ (allP_mem hc (by simp [hi'])) (R.fr.2 i hi')
  · obtain ⟨i, o2, p', _, e2, g2, g3⟩ := hMO _ hb
    exact ⟨i, o2, p', e2, g2, g3⟩

def frzX (k : Nat) (S : St) : Option (St × List Prop) := match S.h.getD k none with
  | some o => match frzV o with
    | some (m, n, v) => some (frzS k m v S, S.fr.flatMap (frzC k m n) ++ S.h.flatMap (frzCO k m n))
    | none => none
  | none => none
theorem SLp.frzE {S : St} (k : Nat) (S' : St) (vs : List Prop) (h : frzX k S = some (S', vs)) (hv : allP vs) : SLp S S' := by
  unfold frzX at h
  split at h
  · rename_i o ho
    split at h
    · rename_i m n v hf
      cases h
      obtain ⟨h1, h2⟩ := allP_append.1 hv
      refine SLp.frz k ?_ hf h1 h2
      rw [List.getD_eq_getElem?_getD] at ho
      cases hx : S.h[k]? with
      | none => rw [hx] at ho; cases ho
      | some x => rw [hx] at ho; exact congrArg some ho
    · cases h
  · cases h
theorem SLp.refl (S : St) : SLp S S := fun _ _ _ _ _ _ R => ⟨R, Step.refl _ _ _⟩
theorem SLp.trans {A B C : St} (h : SLp A B) (k : SLp B C) : SLp A C := fun P Γ N ρ a w R => by
  obtain ⟨R1, s1⟩ := h P Γ N ρ a w R
  obtain ⟨R2, s2⟩ := k P Γ N ρ a w R1
  exact ⟨R2, s1.trans s2⟩
theorem MO.put {h : DH} {ρ : List Place} {k : Nat} {o o' : DO} (hk : h[k]? = some (some o)) {b : Nat} : MO (h.set k (some o')) ρ b ↔ MO h ρ b := by
  have hlt := (List.getElem?_eq_some_iff.1 hk).1
  constructor
  · rintro ⟨i, x, p, h1, h2, h3⟩
    rw [List.getElem?_set] at h1
    by_cases e : k = i
    · subst e; exact ⟨k, o, p, hk, h2, h3⟩
    · rw [if_neg e] at h1; exact ⟨i, x, p, h1, h2, h3⟩
  · rintro ⟨i, x, p, h1, h2, h3⟩
    by_cases e : k = i
    · subst e; exact ⟨k, o', p, by simp [hlt], h2, h3⟩
    · exact ⟨i, x, p, by rw [List.getElem?_set, if_neg e]; exact h1, h2, h3⟩
/-- An object is read otherwise. -/
theorem SLp.obj {S : St} {k : Nat} {o o' : DO} (hk : S.h[k]? = some (some o)) (hO : ∀ (P : Program) (M : Nat → Prop) (w : World) (ρ : List Place) (p : Place), ObjRep P M w ρ p o → ObjRep P M w ρ p o') : SLp S ⟨S.fr, S.h.set k (some o')⟩ := fun P Γ N ρ a w R => by
  have hM : ∀ b, MS N (S.h.set k (some o')) ρ b ↔ MS N S.h ρ b := fun b => or_congr Iff.rfl (MO.put hk)
  have back : ∀ {i : Nat} {x : DO}, (S.h.set k (some o'))[i]? = some (some x) → ∃ y, S.h[i]? = some (some y) ∧ (i = k ∧ x = o' ∨ y = x) := by
    intro i x hi
    rw [List.getElem?_set] at hi
    by_cases e : k = i
    · subst e
      rw [if_pos rfl, if_pos (List.getElem?_eq_some_iff.1 hk).1] at hi
      cases hi
      exact ⟨o, hk, .inl ⟨rfl, rfl⟩⟩
    · rw [if_neg e] at hi; exact ⟨x, hi, .inr rfl⟩
  have O : Outl (MS N S.h ρ) w ρ (MS N (S.h.set k (some o')) ρ) w ρ := out_iff (fun b hb => (hM b).1 hb) ρ
  refine ⟨⟨⟨by simp [R.hr.len], fun i x hi => ?_, fun i x p b g1 g2 g3 => ?_, fun i i' o1 o2 p1 p2 b hne g1 g2 g3 g4 g5 g6 => ?_, R.hr.nlt, R.hr.gi⟩, R.fr.out O⟩, ⟨Upd.refl _ w, fun b hb => .inl ((MO.put hk).1 hb)⟩⟩
  · rw [List.getElem?_set] at hi
    by_cases e : k = i
    · subst e
      rw [if_pos rfl, if_pos (List.getElem?_eq_some_iff.1 hk).1] at hi
      cases hi
      obtain ⟨p, hp, hr⟩ := R.hr.obj k o hk
      exact ⟨p, hp, hO P _ w ρ p (hr.out O (S := fun _ => False) (Upd.refl _ _) (fun _ h => h.elim) fun _ _ _ h => h)⟩
    · rw [if_neg e] at hi
      obtain ⟨p, hp, hr⟩ := R.hr.obj i x hi
      exact ⟨p, hp, hr.out O (S := fun _ => False) (Upd.refl _ _) (fun _ h => h.elim) fun _ _ _ h => h⟩
  · obtain ⟨y, e, _⟩ := back g1
    exact R.hr.cel i y p b e g2 g3
  · obtain ⟨y1, e1, _⟩ := back g1
    obtain ⟨y2, e2, _⟩ := back g2
    exact R.hr.dis i i' y1 y2 p1 p2 b hne e1 e2 g3 g4 g5 g6
/-- What may be done to a state behind an operation: a row becomes a list; a row of records is read otherwise. -/
inductive Fz where
  | frz (k : Nat)
  | arr (k n : Nat) (f : Nat → Nat → DV)
def arrX (k n' : Nat) (f' : Nat → Nat → DV) (S : St) : Option (St × List Prop) := match S.h.getD k none with
  | some (.arr m n f) => some (⟨S.fr, S.h.set k (some (.arr m n' f'))⟩, [n = n' ∧ ∀ i j, i < n → j < m → DLe (f i j) (f' i j)])
  | _ => none
def fzX : Fz → St → Option (St × List Prop)
  | .frz k, S => frzX k S
  | .arr k n f, S => arrX k n f S
theorem getD_some {h : DH} {k : Nat} {o : DO} (ho : h.getD k none = some o) : h[k]? = some (some o) := by
  rw [List.getD_eq_getElem?_getD] at ho
  cases hx : h[k]? with
  | none => rw [hx] at ho; cases ho
  | some x => rw [hx] at ho; exact congrArg some ho
theorem SLp.fz {S : St} (z : Fz) (S' : St) (vs : List Prop) (h : fzX z S = some (S', vs)) (hv : allP vs) : SLp S S' := by
  cases z with
  | frz k => exact SLp.frzE k S' vs h hv
  | arr k n' f' =>
    simp only [fzX, arrX] at h
    split at h
    · rename_i m n f ho
      cases h
      obtain ⟨⟨rfl, hd⟩, _⟩ := hv
      refine SLp.obj (getD_some ho) fun P M w ρ p hr => ?_
      refine RowAt.out hr rfl fun j u hj hu => ?_
      have hm : 0 < m := by rcases Nat.eq_zero_or_pos m with e | e
                            · subst e; omega
                            · exact e
      exact hd _ _ ((Nat.div_lt_iff_lt_mul hm).2 hj) (Nat.mod_lt _ hm) M w [] u hu
    · cases h
/-- Rows to be read as lists behind an operation. -/
def frzs : List (Nat × Fz) → Option Nat → St → Option (St × List Prop × List (Nat × Fz))
  | [], _, S => some (S, [], [])
  | (t, z) :: rest, dst, S => if dst = some t then match fzX z S with
    | some (S', vs) => match frzs rest dst S' with
      | some (S'', vs', r) => some (S'', vs ++ vs', r)
      | none => none
    | none => none
    else some (S, [], (t, z) :: rest)
theorem frzs_sound : ∀ (l : List (Nat × Fz)) {dst : Option Nat} {S S' : St} {vs : List Prop} {r : List (Nat × Fz)}, frzs l dst S = some (S', vs, r) → allP vs → SLp S S'
  | [], dst, S, S', vs, r, h, _ => by cases h; exact SLp.refl S
  | (t, z) :: rest, dst, S, S', vs, r, h, hv => by
    simp only [frzs] at h
    split at h
    · split at h
      · rename_i S1 vs1 h1
        split at h
        · rename_i S2 vs2 r2 h2
          cases h
          obtain ⟨hv1, hv2⟩ := allP_append.1 hv
          exact (SLp.fz z S1 vs1 h1 hv1).trans (frzs_sound rest h2 hv2)
        · cases h
      · cases h
    · cases h; exact SLp.refl S
/-- Rows of records: a list, read by the cells of its elements. -/
abbrev rowsF {α : Type} [Inhabited α] (enc : α → Nat → DV) (L : List α) : Nat → Nat → DV := fun i j => enc (L.getD i default) j
theorem rows_of {α : Type} [Inhabited α] {enc : α → Nat → DV} {L : List α} {n m : Nat} {g : Nat → Nat → DV} (hn : n = L.length) (hg : ∀ i, i < n → ∀ j, j < m → DLe (g i j) (enc (L.getD i default) j)) : n = L.length ∧ ∀ i j, i < n → j < m → DLe (g i j) (rowsF enc L i j) := ⟨hn, fun i j hi hj => hg i hi j hj⟩
theorem rows_app {α : Type} [Inhabited α] {enc : α → Nat → DV} {L L' : List α} {n m c : Nat} {g : Nat → Nat → DV} (hn : n = L.length) (hc : c = L'.length) (hg : ∀ i j, i < c → j < m → DLe (g i j) (rowsF enc L' i j)) : n + c = (L ++ L').length ∧ ∀ i j, i < n + c → j < m → DLe (if i < n then rowsF enc L i j else g (i - n) j) (rowsF enc (L ++ L') i j) := by
  subst hn
  subst hc
  refine ⟨by simp, fun i j hi hj => ?_⟩
  simp only [rowsF, List.getD_eq_getElem?_getD] at hg ⊢
  by_cases h : i < L.length
  · rw [if_pos h, List.getElem?_append_left h]; exact fun _ _ _ _ h => h
  · rw [if_neg h, List.getElem?_append_right (by omega)]
    exact hg _ j (by omega) hj
theorem rows_rep {α : Type} [Inhabited α] {enc : α → Nat → DV} {n m : Nat} {x : α} {g : Nat → Nat → DV} (hg : ∀ i j, j < m → DLe (g i j) (enc x j)) : n = (List.replicate n x).length ∧ ∀ i j, i < n → j < m → DLe (g i j) (rowsF enc (List.replicate n x) i j) := by
  refine ⟨by simp, fun i j hi hj => ?_⟩
  have : (List.replicate n x).getD i default = x := by simp [List.getD_eq_getElem?_getD, hi]
  rw [rowsF, this]; exact hg i j hj
theorem dle_refl {d : DV} : DLe d d := fun _ _ _ _ h => h
theorem oneC_all {l : List DV} {m : Nat} (hl : l.all oneC = true) (hm : m = l.length) : ∀ j, j < m → oneC (l.getD j .any) = true := fun j hj => by
  subst hm
  rw [List.getD_eq_getElem?_getD, List.getElem?_eq_getElem hj]
  exact List.all_eq_true.1 hl _ (List.getElem_mem hj)
def allLe : List DV → List DV → Prop
  | [], [] => True
  | d :: ds, e :: es => DLe d e ∧ allLe ds es
  | _, _ => False
theorem allLe_ok : ∀ {l l' : List DV}, allLe l l' → l.length = l'.length ∧ ∀ j, j < l.length → DLe (l.getD j .any) (l'.getD j .any)
  | [], [], _ => ⟨rfl, fun j hj => absurd hj (Nat.not_lt_zero j)⟩
  | d :: ds, e :: es, ⟨h1, h2⟩ => by
    obtain ⟨q1, q2⟩ := allLe_ok h2
    refine ⟨by simp [q1], fun j hj => ?_⟩
    cases j with
    | zero => exact h1
    | succ j => exact q2 j (by simpa using hj)
  | [], _ :: _, h => h.elim
  | _ :: _, [], h => h.elim
theorem allLe_get {l l' : List DV} (h : allLe l l') (j : Nat) : DLe (l.getD j .any) (l'.getD j .any) := by
  obtain ⟨h1, h2⟩ := allLe_ok h
  by_cases hj : j < l.length
  · exact h2 j hj
  · rw [List.getD_eq_getElem?_getD, List.getD_eq_getElem?_getD, List.getElem?_eq_none (by omega), List.getElem?_eq_none (by omega)]
    exact dle_refl
def rowLe : List DV → List (List DV) → Prop
  | [], [] => True
  | v :: vs, c :: cs => (∃ l, dcells v = some l ∧ allLe l c) ∧ rowLe vs cs
  | _, _ => False
theorem rowLe_get : ∀ {vs : List DV} {cs : List (List DV)}, rowLe vs cs → vs.length = cs.length ∧ ∀ i, i < vs.length → ∃ l, dcells (vs.getD i .any) = some l ∧ allLe l (cs.getD i [])
  | [], [], _ => ⟨rfl, fun i hi => absurd hi (Nat.not_lt_zero i)⟩
  | v :: vs, c :: cs, ⟨h1, h2⟩ => by
    obtain ⟨q1, q2⟩ := rowLe_get h2
    refine ⟨by simp [q1], fun i hi => ?_⟩
    cases i with
    | zero => exact h1
    | succ i => exact q2 i (by simpa using hi)
  | [], _ :: _, h => h.elim
  | _ :: _, [], h => h.elim
theorem rows_build {α : Type} [Inhabited α] {c : α → List DV} {L : List α} {vals : List DV} {m n : Nat} (hn : n = vals.length) (h : rowLe vals (L.map c)) : n = L.length ∧ ∀ i j, i < n → j < m → DLe (match dcells (vals.getD i .any) with | some l => l.getD j .any | none => .any) (rowsF (fun x j => (c x).getD j .any) L i j) := by
  subst hn
  obtain ⟨h1, h2⟩ := rowLe_get h
  rw [List.length_map] at h1
  refine ⟨h1, fun i j hi _ => ?_⟩
  obtain ⟨l, e, hl⟩ := h2 i hi
  rw [e]
  have : (L.map c).getD i [] = c (L.getD i default) := by simp [List.getD_eq_getElem?_getD, h1 ▸ hi]
  rw [this] at hl
  exact allLe_get hl j
theorem rows_made {α : Type} [Inhabited α] {c : α → List DV} {x : α} {l : List DV} {n m : Nat} (h : allLe l (c x)) : n = (List.replicate n x).length ∧ ∀ i j, i < n → j < m → DLe (l.getD j .any) (rowsF (fun x j => (c x).getD j .any) (List.replicate n x) i j) :=
  rows_rep fun _ j _ => allLe_get h j
end
end Go.Proofs.YtekkngkphejfcaaDoor
