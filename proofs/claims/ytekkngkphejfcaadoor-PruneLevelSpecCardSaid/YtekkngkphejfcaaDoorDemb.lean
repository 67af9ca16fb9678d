/- A contract over a few objects, used where more objects lie. -/
import Derived.Test.YtekkngkphejfcaaDoorDdec
namespace Go.Proofs.YtekkngkphejfcaaDoor
open Go.RowKit

/-- The numbers of a contract's objects, where it is used: σ for those that it is given, new ones behind b. -/
def upk (σ : List Nat) (b k : Nat) : Nat := if k < σ.length then σ.getD k 0 else b + (k - σ.length)
def up (σ : List Nat) (b : Nat) : DV → DV
  | .ref k j => .ref (upk σ b k) j
  | .msl k m o n => .msl (upk σ b k) m o n
  | .mse k m o n => .mse (upk σ b k) m o n
  | .mri k i => .mri (upk σ b k) i
  | .mp k m i j => .mp (upk σ b k) m i j
  | .it k => .it (upk σ b k)
  | .agg m f => .agg m (tab m fun j => up σ b (f j))
  | .tup m f => .tup m (tab m fun j => up σ b (f j))
  | .fn g m c => .fn g m (tab m fun j => up σ b (c j))
  | d => d
def upO (σ : List Nat) (b : Nat) : Option DO → Option DO
  | some (.cells l) => some (.cells (l.map (up σ b)))
  | o => o
/-- The objects afterwards. -/
def embH (H : DH) (σ : List Nat) (h' : DH) : DH := ((List.range H.length).map fun k => match renK σ k with
  | some i => upO σ H.length (h'.getD i none)
  | none => H.getD k none) ++ (h'.drop σ.length).map (upO σ H.length)

theorem renK_mem {σ : List Nat} (hn : σ.Nodup) {i k : Nat} (h : σ[i]? = some k) : renK σ k = some i := by
  induction σ generalizing i with
  | nil => simp at h
  | cons x σ ih =>
    unfold renK
    cases i with
    | zero =>
      have : x = k := by simpa using h
      rw [if_pos this]
    | succ i =>
      have h' : σ[i]? = some k := by simpa using h
      have hne : x ≠ k := by
        rintro rfl
        exact (List.nodup_cons.1 hn).1 (List.mem_of_getElem? h')
      rw [if_neg hne, ih (List.nodup_cons.1 hn).2 h']
      rfl

theorem upO_some {σ : List Nat} {b : Nat} {x : Option DO} {o : DO} (h : upO σ b x = some o) : ∃ o0, x = some o0 := by
  cases x with
  | none => cases h
  | some o0 => exact ⟨o0, rfl⟩

section
variable {P : Program} {Γ : Glo}

/-- Read upwards. -/
theorem up_rep {M M' : Nat → Prop} {w : World} {σ : List Nat} {b : Nat} {ρ ρ' : List Place} (hM : ∀ b, M' b → M b) (hρ : ∀ (k : Nat) (p : Place), ρ[k]? = some p → ρ'[upk σ b k]? = some p) : ∀ (d : DV) {v : Value}, RepV M w d ρ v → RepV M' w (up σ b d) ρ' v := by
  have low : ∀ (d : DV) {v : Value}, RepV M w d [] v → RepV M' w d [] v := fun d v h => h.out d (out_iff hM [])
  intro d
  induction d with
  | any => intro v _; trivial
  | nils => intro v h; exact h
  | int k n => intro v h; exact h
  | bool b => intro v h; exact h
  | str s => intro v h; exact h
  | ints l => intro v h; exact low (.ints l) h
  | bools l => intro v h; exact low (.bools l) h
  | sl m n f _ => intro v h; exact low (.sl m n f) h
  | fp m f _ => intro v h; exact low (.fp m f) h
  | agg m f ih =>
    rintro v ⟨cs, e, hs, h⟩
    exact ⟨cs, e, hs, fun j hj => let ⟨u, h1, h2⟩ := h j hj; ⟨u, h1, tab_rep hj (ih j h2)⟩⟩
  | tup m f ih =>
    rintro v ⟨cs, e, hs, h⟩
    exact ⟨cs, e, hs, fun j hj => let ⟨u, h1, h2⟩ := h j hj; ⟨u, h1, tab_rep hj (ih j h2)⟩⟩
  | fn g m c ih =>
    rintro v ⟨cs, e, hs, h⟩
    exact ⟨cs, e, hs, fun j hj => let ⟨u, h1, h2⟩ := h j hj; ⟨u, h1, tab_rep hj (ih j h2)⟩⟩
  | ref k j => rintro v ⟨p, hp, r⟩; exact ⟨p, hρ k p hp, r⟩
  | msl k m o n => rintro v ⟨p, cap, hp, r⟩; exact ⟨p, cap, hρ k p hp, r⟩
  | mp k m i j => rintro v ⟨p, hp, r⟩; exact ⟨p, hρ k p hp, r⟩
  | it k => rintro v ⟨p, hp, r⟩; exact ⟨p, hρ k p hp, r⟩
  | cst u => intro v h; exact h
  | yl l => intro v h; exact h
  | mse k m o n => rintro v ⟨p, a, cap, hp, r⟩; exact ⟨p, a, cap, hρ k p hp, r⟩
  | mri k i => rintro v ⟨p, vs, hp, r⟩; exact ⟨p, vs, hρ k p hp, r⟩
/-- Read downwards. -/
theorem down_rep {M M' : Nat → Prop} {w : World} {σ : List Nat} {b : Nat} {ρ ρ' : List Place} (hM : ∀ b, M' b → M b) (hρ : ∀ (k : Nat) (p : Place), ρ[upk σ b k]? = some p → ρ'[k]? = some p) : ∀ (d : DV) {v : Value}, RepV M w (up σ b d) ρ v → RepV M' w d ρ' v := by
  have low : ∀ (d : DV) {v : Value}, RepV M w d [] v → RepV M' w d [] v := fun d v h => h.out d (out_iff hM [])
  have unt : ∀ {m j : Nat} {f : Nat → DV} {u : Value}, j < m → RepV M w (tab m f j) ρ u → RepV M w (f j) ρ u := fun hj h => by rw [tab_lt hj] at h; exact h
  intro d
  induction d with
  | any => intro v _; trivial
  | nils => intro v h; exact h
  | int k n => intro v h; exact h
  | bool b => intro v h; exact h
  | str s => intro v h; exact h
  | ints l => intro v h; exact low (.ints l) h
  | bools l => intro v h; exact low (.bools l) h
  | sl m n f _ => intro v h; exact low (.sl m n f) h
  | fp m f _ => intro v h; exact low (.fp m f) h
  | agg m f ih =>
    rintro v ⟨cs, e, hs, h⟩
    exact ⟨cs, e, hs, fun j hj => let ⟨u, h1, h2⟩ := h j hj; ⟨u, h1, ih j (unt hj h2)⟩⟩
  | tup m f ih =>
    rintro v ⟨cs, e, hs, h⟩
    exact ⟨cs, e, hs, fun j hj => let ⟨u, h1, h2⟩ := h j hj; ⟨u, h1, ih j (unt hj h2)⟩⟩
  | fn g m c ih =>
    rintro v ⟨cs, e, hs, h⟩
    exact ⟨cs, e, hs, fun j hj => let ⟨u, h1, h2⟩ := h j hj; ⟨u, h1, ih j (unt hj h2)⟩⟩
  | ref k j => rintro v ⟨p, hp, r⟩; exact ⟨p, hρ k p hp, r⟩
  | msl k m o n => rintro v ⟨p, cap, hp, r⟩; exact ⟨p, cap, hρ k p hp, r⟩
  | mp k m i j => rintro v ⟨p, hp, r⟩; exact ⟨p, hρ k p hp, r⟩
  | it k => rintro v ⟨p, hp, r⟩; exact ⟨p, hρ k p hp, r⟩
  | cst u => intro v h; exact h
  | yl l => intro v h; exact h
  | mse k m o n => rintro v ⟨p, a, cap, hp, r⟩; exact ⟨p, a, cap, hρ k p hp, r⟩
  | mri k i => rintro v ⟨p, vs, hp, r⟩; exact ⟨p, vs, hρ k p hp, r⟩

theorem upO_rep {M M' : Nat → Prop} {w : World} {σ : List Nat} {b : Nat} {ρ ρ' : List Place} {p : Place} (hM : ∀ b, M' b → M b) (hρ : ∀ (k : Nat) (p : Place), ρ[k]? = some p → ρ'[upk σ b k]? = some p) {o o' : DO} (ho : upO σ b (some o) = some o') (h : ObjRep P M w ρ p o) : ObjRep P M' w ρ' p o' := by
  cases o with
  | cells l =>
    cases ho
    show RowAt w p (l.map (up σ b)).length _
    rw [List.length_map]
    refine RowAt.out h rfl fun j u hj hu => ?_
    have : (l.map (up σ b)).getD j .any = up σ b (l.getD j .any) := by simp [hj]
    rw [this]; exact up_rep hM hρ _ hu
  | ints l => cases ho; exact RowAt.out h rfl fun j u _ hu => hu
  | bools l => cases ho; exact RowAt.out h rfl fun j u _ hu => hu
  | arr m n f => cases ho; exact RowAt.out h rfl fun j u _ hu => RepV.out _ (out_iff hM []) hu
  | iter encs =>
    cases ho
    obtain ⟨gf, lb, Rd, q1, q2, q3, q4⟩ := h
    exact ⟨gf, lb, Rd, q1, q2, fun b hb => ⟨fun hm => (q3 b hb).1 (hM b hm), (q3 b hb).2⟩, q4⟩
  | mo x => cases ho; exact h
theorem downO_rep {M M' : Nat → Prop} {w : World} {σ : List Nat} {b : Nat} {ρ ρ' : List Place} {p : Place} (hM : ∀ b, M' b → M b) (hρ : ∀ (k : Nat) (p : Place), ρ[upk σ b k]? = some p → ρ'[k]? = some p) {o o' : DO} (ho : upO σ b (some o) = some o') (h : ObjRep P M w ρ p o') : ObjRep P M' w ρ' p o := by
  cases o with
  | cells l =>
    cases ho
    have h : RowAt w p (l.map (up σ b)).length _ := h
    rw [List.length_map] at h
    refine RowAt.out h rfl fun j u hj hu => ?_
    have : (l.map (up σ b)).getD j .any = up σ b (l.getD j .any) := by simp [hj]
    rw [this] at hu; exact down_rep hM hρ _ hu
  | ints l => cases ho; exact RowAt.out h rfl fun j u _ hu => hu
  | bools l => cases ho; exact RowAt.out h rfl fun j u _ hu => hu
  | arr m n f => cases ho; exact RowAt.out h rfl fun j u _ hu => RepV.out _ (out_iff hM []) hu
  | iter encs =>
    cases ho
    obtain ⟨gf, lb, Rd, q1, q2, q3, q4⟩ := h
    exact ⟨gf, lb, Rd, q1, q2, fun b hb => ⟨fun hm => (q3 b hb).1 (hM b hm), (q3 b hb).2⟩, q4⟩
  | mo x => cases ho; exact h

theorem ES.embed {f : Nat} {ds : List DV} {h : DH} {d : DV} {h' : DH} {ext : Bool} (hES : ES P Γ f ds h d h' ext) (σ : List Nat) (H : DH) (hn : σ.Nodup) (hlt : ∀ k ∈ σ, k < H.length) (hl : σ.length = h.length) (hl' : h.length ≤ h'.length)
    (hh : (σ.map fun k => H.getD k none) = h.map (upO σ H.length)) : ES P Γ f (ds.map (up σ H.length)) H (up σ H.length d) (embH H σ h') ext := by
  refine ⟨hES.1, fun N ρ w args HR hargs => ?_⟩
  obtain ⟨ρ0, hρ0⟩ : ∃ ρ0, ρ0 = σ.map fun k => ρ.getD k noPlace := ⟨_, rfl⟩
  have len0 : ρ0.length = σ.length := by rw [hρ0]; simp
  have at0 : ∀ {i k : Nat}, σ[i]? = some k → ρ0[i]? = ρ[k]? := fun {i k} hk => by
    have hk' : k < ρ.length := by rw [HR.len]; exact hlt k (List.mem_of_getElem? hk)
    rw [hρ0, List.getElem?_map, hk]
    simp [hk']
  have sig : ∀ {i : Nat}, i < σ.length → ∃ k, σ[i]? = some k ∧ upk σ H.length i = k := fun {i} hi => by
    refine ⟨σ[i], by simp [hi], ?_⟩
    unfold upk; rw [if_pos hi]; simp [hi]
  -- the objects, both ways
  have obj0 : ∀ {i : Nat} {o : DO}, h[i]? = some (some o) → ∃ k o', σ[i]? = some k ∧ H[k]? = some (some o') ∧ upO σ H.length (some o) = some o' := fun {i o} hi => by
    have hil : i < σ.length := by rw [hl]; exact (List.getElem?_eq_some_iff.1 hi).1
    obtain ⟨k, hk, _⟩ := sig hil
    have e := congrArg (·[i]?) hh
    simp only [List.getElem?_map, hk, hi, Option.map_some] at e
    have hkl := hlt k (List.mem_of_getElem? hk)
    have e : H.getD k none = upO σ H.length (some o) := Option.some.inj e
    have e2 : ∃ o', upO σ H.length (some o) = some o' := by cases o <;> exact ⟨_, rfl⟩
    obtain ⟨o', ho'⟩ := e2
    refine ⟨k, o', hk, ?_, ho'⟩
    rw [ho'] at e
    rw [List.getElem?_eq_getElem hkl]
    rw [List.getD_eq_getElem?_getD, List.getElem?_eq_getElem hkl] at e
    exact congrArg some e
  have objH : ∀ {i k : Nat} {o' : DO}, σ[i]? = some k → H[k]? = some (some o') → ∃ o, h[i]? = some (some o) ∧ upO σ H.length (some o) = some o' := fun {i k o'} hk ho => by
    have hil : i < h.length := by rw [← hl]; exact (List.getElem?_eq_some_iff.1 hk).1
    have e := congrArg (·[i]?) hh
    simp only [List.getElem?_map, hk, List.getElem?_eq_getElem hil, Option.map_some] at e
    have e : H.getD k none = upO σ H.length h[i] := Option.some.inj e
    rw [get_some ho] at e
    obtain ⟨o0, e0⟩ := upO_some e.symm
    exact ⟨o0, by rw [List.getElem?_eq_getElem hil, e0], by rw [e0] at e; exact e.symm⟩
  obtain ⟨N0, hN0⟩ : ∃ N0 : Nat → Prop, N0 = fun b => N b ∨ ∃ k o p, renK σ k = none ∧ H[k]? = some (some o) ∧ ρ[k]? = some p ∧ p.foot b := ⟨_, rfl⟩
  have mo0 : ∀ b, MO h ρ0 b → MO H ρ b := by
    rintro b ⟨i, o, p, g1, g2, g3⟩
    obtain ⟨k, o', e1, e2, _⟩ := obj0 g1
    exact ⟨k, o', p, e2, (at0 e1).symm.trans g2, g3⟩
  have ms0 : ∀ b, MS N0 h ρ0 b → MS N H ρ b := by
    rintro b (hb | hb)
    · rw [hN0] at hb
      rcases hb with hb | ⟨k, o, p, _, g1, g2, g3⟩
      · exact .inl hb
      · exact .inr ⟨k, o, p, g1, g2, g3⟩
    · exact .inr (mo0 b hb)
  have ms1 : ∀ b, MS N H ρ b → MS N0 h ρ0 b := by
    rintro b (hb | ⟨k, o, p, g1, g2, g3⟩)
    · exact .inl (by rw [hN0]; exact .inl hb)
    · cases hk : renK σ k with
      | none => exact .inl (by rw [hN0]; exact .inr ⟨k, o, p, hk, g1, g2, g3⟩)
      | some i =>
        have hi := renK_spec hk
        obtain ⟨o0, e1, _⟩ := objH hi g1
        exact .inr ⟨i, o0, p, e1, (at0 hi).trans g2, g3⟩
  have dn : ∀ (k : Nat) (p : Place), ρ[upk σ H.length k]? = some p → ρ0[k]? = some p := fun k p hp => by
    by_cases hk : k < σ.length
    · obtain ⟨k', e1, e2⟩ := sig hk
      rw [e2] at hp
      exact (at0 e1).trans hp
    · unfold upk at hp
      rw [if_neg hk] at hp
      have := (List.getElem?_eq_some_iff.1 hp).1
      rw [HR.len] at this; omega
  have foreign : ∀ {b : Nat}, N0 b → ¬ MO h ρ0 b := by
    rintro b hb ⟨i, o, p, g1, g2, g3⟩
    obtain ⟨k, o', e1, e2, _⟩ := obj0 g1
    have hp := (at0 e1).symm.trans g2
    rw [hN0] at hb
    rcases hb with hb | ⟨k', o2, p2, q1, q2, q3, q4⟩
    · exact (HR.cel k o' p b e2 hp g3).2.1 hb
    · refine HR.dis k k' o' o2 p p2 b ?_ e2 q2 hp q3 g3 q4
      rintro rfl
      rw [renK_mem hn e1] at q1; cases q1
  have H0 : HRel P Γ N0 h ρ0 w := by
    refine ⟨by rw [len0, hl], fun i o hi => ?_, fun i o p b g1 g2 g3 => ?_, fun i i' o1 o2 p1 p2 b hne g1 g2 g3 g4 g5 g6 => ?_, fun b hb => HR.lt2 (ms0 b (.inl hb)), HR.gi⟩
    · obtain ⟨k, o', e1, e2, e3⟩ := obj0 hi
      obtain ⟨p, hp, hr⟩ := HR.obj k o' e2
      exact ⟨p, (at0 e1).trans hp, downO_rep ms0 dn e3 hr⟩
    · obtain ⟨k, o', e1, e2, e3⟩ := obj0 g1
      obtain ⟨q1, q2, q3⟩ := HR.cel k o' p b e2 ((at0 e1).symm.trans g2) g3
      exact ⟨q1, fun hb => foreign hb ⟨i, o, p, g1, g2, g3⟩, q3⟩
    · obtain ⟨k, o', e1, e2, e3⟩ := obj0 g1
      obtain ⟨k', o2', e1', e2', e3'⟩ := obj0 g2
      refine HR.dis k k' o' o2' p1 p2 b ?_ e2 e2' ((at0 e1).symm.trans g3) ((at0 e1').symm.trans g4) g5 g6
      rintro rfl
      have a1 := renK_mem hn e1
      have a2 := renK_mem hn e1'
      exact hne (Option.some.inj (a1.symm.trans a2))
  refine (hES.2 N0 ρ0 w args H0 ⟨by rw [← hargs.1]; simp, fun i hi => ?_⟩).mono ?_
  · have := hargs.2 i (by simpa using hi)
    have e : (ds.map (up σ H.length)).getD i .any = up σ H.length (ds.getD i .any) := by simp [hi]
    rw [e] at this
    exact down_rep ms0 dn _ this
  · rintro e w' ⟨v, rfl, ⟨⟨ρ1, g1, g2, g3, g4⟩, g5⟩⟩
    have l1 : ρ1.length = h'.length := g1.len
    obtain ⟨ρ', hρ'⟩ : ∃ ρ', ρ' = ρ ++ ρ1.drop σ.length := ⟨_, rfl⟩
    have at1 : ∀ {i k : Nat}, σ[i]? = some k → ρ1[i]? = ρ[k]? := fun {i k} hk => by
      have hil : i < ρ0.length := by rw [len0]; exact (List.getElem?_eq_some_iff.1 hk).1
      have := g4 i ρ0[i] (by simp [hil])
      rw [this, ← at0 hk]; simp [hil]
    have old : ∀ {k : Nat}, k < H.length → ρ'[k]? = ρ[k]? := fun {k} hk => by rw [hρ', List.getElem?_append_left (by rw [HR.len]; exact hk)]
    have upρ : ∀ (k : Nat) (p : Place), ρ1[k]? = some p → ρ'[upk σ H.length k]? = some p := fun k p hp => by
      by_cases hk : k < σ.length
      · obtain ⟨k', e1, e2⟩ := sig hk
        rw [e2, old (hlt k' (List.mem_of_getElem? e1)), ← at1 e1]; exact hp
      · unfold upk
        rw [if_neg hk, hρ', List.getElem?_append_right (by rw [HR.len]; omega), List.getElem?_drop, HR.len]
        rw [show σ.length + (H.length + (k - σ.length) - H.length) = k by omega]
        exact hp
    -- what lies where afterwards
    have lenE : (embH H σ h').length = H.length + (h'.length - σ.length) := by simp [embH]
    have src : ∀ {k : Nat} {o' : DO}, (embH H σ h')[k]? = some (some o') → (k < H.length ∧ renK σ k = none ∧ H[k]? = some (some o') ∧ ρ'[k]? = ρ[k]?) ∨ ∃ i o, h'[i]? = some (some o) ∧ upO σ H.length (some o) = some o' ∧ ρ'[k]? = ρ1[i]? ∧ k = upk σ H.length i := by
      intro k o' hk
      by_cases hkl : k < H.length
      · unfold embH at hk
        rw [List.getElem?_append_left (by simpa using hkl), List.getElem?_map, List.getElem?_range hkl] at hk
        simp only [Option.map_some, Option.some.injEq] at hk
        split at hk
        · rename_i i hi
          have his := renK_spec hi
          obtain ⟨o0, e0⟩ := upO_some hk
          have hil : i < h'.length := Nat.lt_of_lt_of_le (by rw [← hl]; exact (List.getElem?_eq_some_iff.1 his).1) hl'
          rw [e0] at hk
          refine .inr ⟨i, o0, ?_, hk, ?_, ?_⟩
          · rw [List.getElem?_eq_getElem hil]
            rw [List.getD_eq_getElem?_getD, List.getElem?_eq_getElem hil] at e0
            exact congrArg some e0
          · rw [old hkl, at1 his]
          · obtain ⟨k2, e1, e2⟩ := sig (List.getElem?_eq_some_iff.1 his).1
            rw [e2]; exact Option.some.inj (his.symm.trans e1)
        · rename_i hi
          refine .inl ⟨hkl, hi, ?_, old hkl⟩
          rw [List.getElem?_eq_getElem hkl]
          rw [List.getD_eq_getElem?_getD, List.getElem?_eq_getElem hkl] at hk
          exact congrArg some hk
      · unfold embH at hk
        rw [List.getElem?_append_right (by simp; omega), List.getElem?_map, List.getElem?_drop] at hk
        simp only [List.length_map, List.length_range] at hk
        cases hx : h'[σ.length + (k - H.length)]? with
        | none => rw [hx] at hk; cases hk
        | some x =>
          rw [hx] at hk
          have hk : upO σ H.length x = some o' := Option.some.inj hk
          obtain ⟨o0, e0⟩ := upO_some hk
          subst e0
          refine .inr ⟨σ.length + (k - H.length), o0, hx, hk, ?_, ?_⟩
          · rw [hρ', List.getElem?_append_right (by rw [HR.len]; omega), List.getElem?_drop, HR.len]
          · unfold upk; rw [if_neg (by omega)]; omega
    have back : ∀ {k : Nat} {o : DO}, renK σ k = none → H[k]? = some (some o) → (embH H σ h')[k]? = some (some o) := by
      intro k o hk ho
      have hkl := (List.getElem?_eq_some_iff.1 ho).1
      unfold embH
      rw [List.getElem?_append_left (by simpa using hkl), List.getElem?_map, List.getElem?_range hkl]
      simp only [Option.map_some, hk, get_some ho]
    have msE : ∀ b, MS N (embH H σ h') ρ' b → MS N0 h' ρ1 b := by
      rintro b (hb | ⟨k, o', p, q1, q2, q3⟩)
      · exact .inl (by rw [hN0]; exact .inl hb)
      · rcases src q1 with ⟨a1, a2, a3, a4⟩ | ⟨i, o, a1, a2, a3, a4⟩
        · exact .inl (by rw [hN0]; exact .inr ⟨k, o', p, a2, a3, a4.symm.trans q2, q3⟩)
        · exact .inr ⟨i, o, p, a1, a3.symm.trans q2, q3⟩
    have grow : ∀ b, MO (embH H σ h') ρ' b → MO H ρ b ∨ w.heap.size ≤ b := by
      rintro b ⟨k, o', p, q1, q2, q3⟩
      rcases src q1 with ⟨a1, a2, a3, a4⟩ | ⟨i, o, a1, a2, a3, a4⟩
      · exact .inl ⟨k, o', p, a3, a4.symm.trans q2, q3⟩
      · exact (g3.grow b ⟨i, o, p, a1, a3.symm.trans q2, q3⟩).imp (mo0 b) id
    have pl : ∀ (k : Nat) (p : Place), ρ[k]? = some p → ρ'[k]? = some p := fun k p hp => by
      rw [hρ', List.getElem?_append_left (List.getElem?_eq_some_iff.1 hp).1]; exact hp
    have O : Outl (MS N H ρ) w ρ (MS N (embH H σ h') ρ') w' ρ' :=
      ⟨fun b hb hm _ => g3.upd.block b hb fun hx => hm (.inr (mo0 b hx)), fun b hb => hb.elim (fun hb => .inl (.inl hb)) (fun hb => (grow b hb).imp .inr id), pl⟩
    refine ⟨v, rfl, ⟨⟨ρ', ⟨?_, fun k o' hk => ?_, fun k o' p b q1 q2 q3 => ?_, fun k k' o1 o2 p1 p2 b hne q1 q2 q3 q4 q5 q6 => ?_, fun b hb => ⟨Nat.lt_of_lt_of_le (HR.nlt b hb).1 g3.upd.size, (HR.nlt b hb).2⟩, g1.gi⟩, up_rep msE upρ _ g2, ⟨g3.upd.mono fun b _ hb => mo0 b hb, grow⟩, pl⟩, g5⟩⟩
    · rw [lenE, hρ']; simp [HR.len, l1]
    · rcases src hk with ⟨a1, a2, a3, a4⟩ | ⟨i, o, a1, a2, a3, a4⟩
      · obtain ⟨p, hp, hr⟩ := HR.obj k o' a3
        refine ⟨p, a4.trans hp, hr.out O g3.upd (fun b hb => .inr (mo0 b hb)) fun b _ hf hs => ?_⟩
        exact foreign (by rw [hN0]; exact .inr ⟨k, o', p, a2, a3, hp, hf⟩) hs
      · obtain ⟨p, hp, hr⟩ := g1.obj i o a1
        exact ⟨p, a3.trans hp, upO_rep msE upρ a2 hr⟩
    · rcases src q1 with ⟨a1, a2, a3, a4⟩ | ⟨i, o, a1, a2, a3, a4⟩
      · have hp := a4.symm.trans q2
        obtain ⟨c1, c2, c, t, z, c3⟩ := HR.cel k o' p b a3 hp q3
        refine ⟨c1, c2, c, t, z, (g3.upd.block b (Array.getElem?_eq_some_iff.1 c3).1 fun hx => ?_).trans c3⟩
        exact foreign (by rw [hN0]; exact .inr ⟨k, o', p, a2, a3, hp, q3⟩) hx
      · obtain ⟨c1, c2, c3⟩ := g1.cel i o p b a1 (a3.symm.trans q2) q3
        exact ⟨c1, fun hb => c2 (by rw [hN0]; exact .inl hb), c3⟩
    · rcases src q1 with ⟨a1, a2, a3, a4⟩ | ⟨i, o, a1, a2, a3, a4⟩
      · rcases src q2 with ⟨c1, c2, c3, c4⟩ | ⟨i', o', c1, c2, c3, c4⟩
        · exact HR.dis k k' o1 o2 p1 p2 b hne a3 c3 (a4.symm.trans q3) (c4.symm.trans q4) q5 q6
        · exact (g1.cel i' o' p2 b c1 (c3.symm.trans q4) q6).2.1 (by rw [hN0]; exact .inr ⟨k, o1, p1, a2, a3, a4.symm.trans q3, q5⟩)
      · rcases src q2 with ⟨c1, c2, c3, c4⟩ | ⟨i', o', c1, c2, c3, c4⟩
        · exact (g1.cel i o p1 b a1 (a3.symm.trans q3) q5).2.1 (by rw [hN0]; exact .inr ⟨k', o2, p2, c2, c3, c4.symm.trans q4, q6⟩)
        · refine g1.dis i i' o o' p1 p2 b ?_ a1 c1 (a3.symm.trans q3) (c3.symm.trans q4) q5 q6
          rintro rfl
          exact hne (a4.trans c4.symm)
/-- .. with what is to be checked put together. -/
def embB (σ : List Nat) (n l l' : Nat) : Bool := decide σ.Nodup && σ.all (fun k => decide (k < n)) && decide (σ.length = l) && decide (l ≤ l')
theorem ES.embedB {f : Nat} {ds : List DV} {h : DH} {d : DV} {h' : DH} {ext : Bool} (hES : ES P Γ f ds h d h' ext) (σ : List Nat) (H : DH) (hb : embB σ H.length h.length h'.length = true) (hh : (σ.map fun k => H.getD k none) = h.map (upO σ H.length))
    {ds1 : List DV} {d1 : DV} {H1 : DH} (e : (ds.map (up σ H.length), up σ H.length d, embH H σ h') = (ds1, d1, H1)) : ES P Γ f ds1 H d1 H1 ext := by
  simp only [embB, Bool.and_eq_true, decide_eq_true_eq, List.all_eq_true] at hb
  cases e
  exact hES.embed σ H hb.1.1.1 (fun k hk => hb.1.1.2 k hk) hb.1.2 hb.2 hh
end
end Go.Proofs.YtekkngkphejfcaaDoor
