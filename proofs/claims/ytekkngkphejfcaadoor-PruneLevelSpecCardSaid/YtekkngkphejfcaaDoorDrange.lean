/- Ranges over functions, on the view. -/
import Derived.Test.YtekkngkphejfcaaDoorDemb
namespace Go.Proofs.YtekkngkphejfcaaDoor
open Go.RowKit

section
variable {P : Program} {Γ : Glo}

theorem Marks.upd2 {B : Nat} {S : Nat → Prop} {w w' : World} (hu : Upd S w w') : ∀ {ds : List Deferred}, Marks B ds w → (∀ D, B ≤ D → D < w.heap.size → ¬ S D) → Marks B ds w'
  | [], _, _ => trivial
  | _ :: _, ⟨D, h1, h2, h3, h4, h5⟩, hs => ⟨D, h1, h2, (hu.block D (Array.getElem?_eq_some_iff.1 h3).1 (hs D h2 (Array.getElem?_eq_some_iff.1 h3).1)).trans h3, h4, Marks.upd2 hu h5 hs⟩

/-- Foreign blocks change, others become foreign. -/
theorem HRel.foreign {N1 N2 G : Nat → Prop} {h : DH} {ρ : List Place} {A B : World} (H : HRel P Γ N1 h ρ A) (hu : Upd G A B) (hG : ∀ b, G b → N1 b ∧ Γ.ng ≤ b) (hN : ∀ b, N2 b → N1 b ∨ A.heap.size ≤ b) (hb : ∀ b, N2 b → b < B.heap.size ∧ Γ.ng ≤ b) : HRel P Γ N2 h ρ B := by
  have O : Outl (MS N1 h ρ) A ρ (MS N2 h ρ) B ρ := ⟨fun b hlt hm _ => hu.block b hlt fun hx => hm (.inl (hG b hx).1), fun b hb => hb.elim (fun h => (hN b h).imp .inl id) (fun h => .inl (.inr h)), fun _ _ h => h⟩
  refine ⟨H.len, fun k o hk => ?_, fun k o p b h1 h2 h3 => ?_, H.dis, hb, Γ.st _ _ H.gi (hu.mono fun i _ hx => (hG i hx).2)⟩
  · obtain ⟨p, hp, hr⟩ := H.obj k o hk
    exact ⟨p, hp, hr.out O hu (fun b hb => .inl (hG b hb).1) fun b _ hf hs => (H.cel k o p b hk hp hf).2.1 (hG b hs).1⟩
  · obtain ⟨c1, c2, c, t, z, c3⟩ := H.cel k o p b h1 h2 h3
    have hlt := (Array.getElem?_eq_some_iff.1 c3).1
    exact ⟨c1, fun hn => (hN b hn).elim c2 (by omega), c, t, z, (hu.block b hlt fun hx => c2 (hG b hx).1).trans c3⟩
theorem Outl.foreign {N1 N2 G : Nat → Prop} {h : DH} {ρ : List Place} {A B : World} (hu : Upd G A B) (hG : ∀ b, G b → N1 b ∧ Γ.ng ≤ b) (hN : ∀ b, N2 b → N1 b ∨ A.heap.size ≤ b) : Outl (MS N1 h ρ) A ρ (MS N2 h ρ) B ρ :=
  ⟨fun b hlt hm _ => hu.block b hlt fun hx => hm (.inl (hG b hx).1), fun b hb => hb.elim (fun h => (hN b h).imp .inl id) (fun h => .inl (.inr h)), fun _ _ h => h⟩

/-- The slots that a round's values come into. -/
def setPs (fr : List DV) (ps : List Tmp) (x : List Value) : List DV := (ps.zip x).foldl (fun t q => t.set q.1 (ofV q.2)) fr
theorem setPs_rep {M : Nat → Prop} {w : World} {ρ : List Place} : ∀ (l : List (Tmp × Value)) {fr : List DV} {t : Array Value}, FrRep M w ρ fr t → FrRep M w ρ (l.foldl (fun t q => t.set q.1 (ofV q.2)) fr) (l.foldl (fun t (q : Tmp × Value) => t.setIfInBounds q.1 q.2) t)
  | [], _, _, h => h
  | q :: l, _, _, h => setPs_rep l (h.set q.1 (ofV_rep _))

/-- All references lie below K. -/
def refB (K : Nat) : DV → Bool
  | .ref k _ => decide (k < K)
  | .msl k _ _ _ => decide (k < K)
  | .mse k _ _ _ => decide (k < K)
  | .mri k _ => decide (k < K)
  | .mp k _ _ _ => decide (k < K)
  | .it k => decide (k < K)
  | .agg m f => (List.range m).all fun j => refB K (f j)
  | .tup m f => (List.range m).all fun j => refB K (f j)
  | .fn _ m f => (List.range m).all fun j => refB K (f j)
  | _ => true
theorem get_take {α : Type} {l : List α} {K k : Nat} {x : α} (hk : k < K) (h : l[k]? = some x) : (l.take K)[k]? = some x := by rw [List.getElem?_take, if_pos hk]; exact h
theorem RepV.take {M : Nat → Prop} {w : World} {K : Nat} : ∀ (d : DV) {ρ : List Place} {v : Value}, refB K d = true → RepV M w d ρ v → RepV M w d (ρ.take K) v := by
  intro d
  induction d with
  | ref k j => rintro ρ v hb ⟨p, h, e⟩; exact ⟨p, get_take (of_decide_eq_true hb) h, e⟩
  | msl k m off n => rintro ρ v hb ⟨p, cap, h, e⟩; exact ⟨p, cap, get_take (of_decide_eq_true hb) h, e⟩
  | mp k m i j => rintro ρ v hb ⟨p, h, e⟩; exact ⟨p, get_take (of_decide_eq_true hb) h, e⟩
  | it k => rintro ρ v hb ⟨p, h, e⟩; exact ⟨p, get_take (of_decide_eq_true hb) h, e⟩
  | agg m f ih =>
    rintro ρ v hb ⟨cs, e, hs, h⟩
    exact ⟨cs, e, hs, fun j hj => let ⟨u, h1, h2⟩ := h j hj; ⟨u, h1, ih j (List.all_eq_true.1 hb j (List.mem_range.2 hj)) h2⟩⟩
  | tup m f ih =>
    rintro ρ v hb ⟨cs, e, hs, h⟩
    exact ⟨cs, e, hs, fun j hj => let ⟨u, h1, h2⟩ := h j hj; ⟨u, h1, ih j (List.all_eq_true.1 hb j (List.mem_range.2 hj)) h2⟩⟩
  | fn g m f ih =>
    rintro ρ v hb ⟨cs, e, hs, h⟩
    exact ⟨cs, e, hs, fun j hj => let ⟨u, h1, h2⟩ := h j hj; ⟨u, h1, ih j (List.all_eq_true.1 hb j (List.mem_range.2 hj)) h2⟩⟩
  | yl l => rintro ρ v _ h; exact h
  | cst u => rintro ρ v _ h; exact h
  | mse k m off n => rintro ρ v hb ⟨p, a, cap, h, e⟩; exact ⟨p, a, cap, get_take (of_decide_eq_true hb) h, e⟩
  | mri k i => rintro ρ v hb ⟨p, vs, h, e⟩; exact ⟨p, vs, get_take (of_decide_eq_true hb) h, e⟩
  | any => rintro ρ v _ h; trivial
  | nils => rintro ρ v _ h; exact h
  | int k n => rintro ρ v _ h; exact h
  | bool b => rintro ρ v _ h; exact h
  | str s => rintro ρ v _ h; exact h
  | ints l => rintro ρ v _ h; exact h
  | bools l => rintro ρ v _ h; exact h
  | sl m n f => rintro ρ v _ h; exact h
  | fp m f => rintro ρ v _ h; exact h
theorem FrRep.take {M : Nat → Prop} {w : World} {K : Nat} {ρ : List Place} {fr : List DV} {t : Array Value} (h : FrRep M w ρ fr t) (hb : fr.all (refB K) = true) : FrRep M w (ρ.take K) fr t := by
  refine ⟨h.1, fun i hi => RepV.take _ ?_ (h.2 i hi)⟩
  have : fr.getD i .any ∈ fr := by simp [List.getD_eq_getElem?_getD, hi]
  exact List.all_eq_true.1 hb _ this
/-- What holds before a round (and behind the last). -/
structure RI (K : Nat) (P : Program) (Γ : Glo) (N : Nat → Prop) (h0 : DH) (ρ0 : List Place) (w0 : World) (G : Nat → Prop) (W : World) (h : DH) (ρ : List Place) : Prop where
  hr : HRel P Γ (fun b => N b ∨ G b) h ρ W
  upd : Upd (MO h0 ρ0) w0 W
  grow : ∀ b, MO h ρ b → MO h0 ρ0 b ∨ w0.heap.size ≤ b
  g : ∀ b, G b → Γ.ng ≤ b ∧ (MO h0 ρ0 b ∨ w0.heap.size ≤ b)
  kept : Kept K ρ0 ρ
theorem RI.stable {K : Nat} {N : Nat → Prop} {h0 : DH} {ρ0 : List Place} {w0 : World} (hng : Γ.ng ≤ w0.heap.size) {G G' : Nat → Prop} {A B : World} {h : DH} {ρ : List Place} (R : RI K P Γ N h0 ρ0 w0 G A h ρ) (hu : Upd G A B) (hg : ∀ k, G' k → G k ∨ A.heap.size ≤ k) (hb : ∀ k, G' k → k < B.heap.size) : RI K P Γ N h0 ρ0 w0 G' B h ρ := by
  have hs : w0.heap.size ≤ A.heap.size := R.upd.size
  refine ⟨R.hr.foreign hu (fun b hx => ⟨.inr hx, (R.g b hx).1⟩) (fun b hx => ?_) (fun b hx => ?_), R.upd.comp hu fun i hi hx => (R.g i hx).2.resolve_right (by omega), R.grow, fun b hx => ?_, R.kept⟩
  · rcases hx with hx | hx
    · exact .inl (.inl hx)
    · exact (hg b hx).imp .inr id
  · rcases hx with hx | hx
    · exact ⟨Nat.lt_of_lt_of_le (R.hr.nlt b (.inl hx)).1 hu.size, (R.hr.nlt b (.inl hx)).2⟩
    · exact ⟨hb b hx, (hg b hx).elim (fun h => (R.g b h).1) (fun h => by omega)⟩
  · rcases hg b hx with hx | hx
    · exact R.g b hx
    · exact ⟨by omega, .inr (by omega)⟩
/-- The values from before are still what they were. -/
theorem RI.outl {K : Nat} {N : Nat → Prop} {h0 : DH} {ρ0 : List Place} {w0 : World} {G : Nat → Prop} {W : World} {h : DH} {ρ : List Place} (R : RI K P Γ N h0 ρ0 w0 G W h ρ) : Outl (MS N h0 ρ0) w0 (ρ0.take K) (MS (fun b => N b ∨ G b) h ρ) W ρ :=
  ⟨fun b hlt hm _ => R.upd.block b hlt fun hx => hm (.inr hx), fun b hb => by
    rcases hb with (hb | hb) | hb
    · exact .inl (.inl hb)
    · exact (R.g b hb).2.imp .inr id
    · exact (R.grow b hb).imp .inr id, fun k p hk => by
    rw [List.getElem?_take] at hk
    by_cases e : k < K
    · rw [if_pos e] at hk; exact R.kept k p e hk
    · rw [if_neg e] at hk; cases hk⟩

/-- The statement that leaves a range. -/
def exC : Exit → Option Code
  | .ret => some .ret
  | .exit id => some (.exit id)
  | _ => none
/-- How a round ends. -/
def RndE (L : Nat) (J : DH → Prop) (Jx : Exit → DH → Prop) (e : Exit) (S : St) : Prop := ∃ S3, SLe L S S3 ∧ ((e = .normal ∧ J S3.h) ∨ ((exC e).isSome = true ∧ Jx e S3.h))
/-- A round, from the assignments on. -/
def Round (P : Program) (Γ : Glo) (fr : List DV) (ps : List Tmp) (assign body : Code) (L : Nat) (J : Nat → DH → Prop) (Jx : Exit → DH → Prop) (encs : List (Array Value)) : Prop :=
  ∀ (l B : Nat) (Y : Yard P Γ L) (i : Nat) (x : Array Value) (h : DH), encs[i]? = some x → J i h →
    Tr P Γ (Fence.wide.inRound l) (some B) L Y assign ⟨setPs fr ps x.toList, h⟩ (thenQ (fun S' Y' => Y' = Y ∧ ∀ Y2 : Yard P Γ L, Tr P Γ (Fence.wide.inRound l) (some B) L Y2 body S' (stay Y2 (RndE L (J (i + 1)) Jx))) (fun _ _ _ => False))

theorem range_round {N : Nat → Prop} {S : St} {ρ : List Place} {a : Act} {w : World} (R : Rel P Γ N S ρ a w) {ps : Array Tmp} {assign body : Code} {encs : List (Array Value)} {J : Nat → DH → Prop} {Jx : Exit → DH → Prop} {Rd : Nat → Prop} {l KK : Nat} (hfr : S.fr.all (refB KK) = true)
    (hRd : ∀ b, Rd b → ¬ MS N S.h ρ b ∧ b < w.heap.size) (hround : Round P Γ S.fr ps.toList assign body KK J Jx encs)
    (G : Nat → Prop) (i : Nat) (x : Array Value) (W : World) (hx : encs[i]? = some x) (hI : ∃ h ρ', J i h ∧ RI KK P Γ N S.h ρ w G W h ρ') (hl : ∃ r, W.heap[l]? = some (.loop r)) (hgl : G l) :
    assign.wpIn (Fence.wide.inRound l) 0 P (Exit.then (fun a₁ W₁ => ∃ K : (Nat → Prop) → World → Prop, Stable K ∧ Upd (fun k => ¬ (G k ∨ Rd k)) W W₁ ∧ K G W₁ ∧ ∀ W₂, K G W₂ → (∃ r, W₂.heap[l]? = some (.loop r)) →
      body.wpIn (Fence.wide.inRound l) 0 P (roundQ (fun k => G k ∨ Rd k) (fun W' => ∃ h ρ', J (i + 1) h ∧ RI KK P Γ N S.h ρ w G W' h ρ') (fun c W' => ∃ e, exC e = some c ∧ ∃ h ρ', Jx e h ∧ RI KK P Γ N S.h ρ w G W' h ρ') W₂) a₁ W₂) (fun _ _ _ => False)) { tmps := (ps.zip x).foldl (fun t (p, v) => t.setIfInBounds p v) a.tmps, defers := [] } W := by
  obtain ⟨h, ρ1, hJ, hR⟩ := hI
  have hng : Γ.ng ≤ w.heap.size := Γ.lo _ R.hr.gi
  have fr1 : FrRep (MS (fun b => N b ∨ G b) h ρ1) W ρ1 (setPs S.fr ps.toList x.toList) ((ps.zip x).foldl (fun t (p, v) => t.setIfInBounds p v) a.tmps) := by
    have := setPs_rep (ps.zip x).toList ((R.fr.take hfr).out hR.outl)
    rw [Array.toList_zip] at this
    rw [← Array.foldl_toList, Array.toList_zip]
    exact this
  have off : ∀ {G : Nat → Prop} {W : World} {h : DH} {ρ1 : List Place}, RI KK P Γ N S.h ρ w G W h ρ1 → ∀ b, MO h ρ1 b → ¬ (G b ∨ Rd b) := by
    rintro G W h ρ1 hR b hm (hg | hd)
    · obtain ⟨k, o, p, q1, q2, q3⟩ := hm
      exact (hR.hr.cel k o p b q1 q2 q3).2.1 (.inr hg)
    · rcases hR.grow b hm with hm | hm
      · exact (hRd b hd).1 (.inr hm)
      · have := (hRd b hd).2; omega
  have step : ∀ {G : Nat → Prop} {W W' : World} {h h' : DH} {ρ1 ρ2 : List Place}, RI KK P Γ N S.h ρ w G W h ρ1 → HRel P Γ (fun b => N b ∨ G b) h' ρ2 W' → Step h ρ1 W h' ρ2 W' → Kept KK ρ1 ρ2 → RI KK P Γ N S.h ρ w G W' h' ρ2 := by
    intro G W W' h h' ρ1 ρ2 hR hr' st hk
    have hs := hR.upd.size
    exact ⟨hr', hR.upd.comp st.upd fun b hb hm => (hR.grow b hm).resolve_right (by omega), fun b hb => (st.grow b hb).elim (hR.grow b) fun h => .inr (by omega), hR.g, hR.kept.trans hk⟩
  have bd : Bd (Fence.wide.inRound l) (some W.heap.size) W := ⟨fun b e => by cases e; exact Nat.le_refl _, fun l' e => by cases e; exact hl⟩
  refine wpIn_mono (hround l W.heap.size (startY P Γ KK (fun b => N b ∨ G b) h ρ1 W) i x h hx hJ _ ρ1 _ W ⟨hR.hr, fr1⟩ ⟨rfl, Step.refl _ _ _, Kept.refl _ _⟩ trivial bd) ?_
  rintro e a1 W1 ⟨S', ρ2, N2, Y2, h1, h2, h3, h4, _⟩
  cases e with
  | normal =>
    obtain ⟨rfl, h1⟩ := h1
    obtain ⟨rfl, h3, h5⟩ := h3
    refine ⟨fun G' W' => RI KK P Γ N S.h ρ w G' W' S'.h ρ2 ∧ FrRep (MS (fun b => N b ∨ G' b) S'.h ρ2) W' ρ2 S'.fr a1.tmps ∧ Marks W.heap.size a1.defers W' ∧ W1.heap.size ≤ W'.heap.size ∧ (∀ b, G' b → b < W.heap.size ∨ W1.heap.size ≤ b) ∧ (∀ d ∈ a1.defers, ∀ D, d.target = .collected D → D < W1.heap.size), ?_, h3.upd.mono fun b _ hm => off hR b hm, ⟨step hR h2.hr h3 h5, h2.fr, h4, Nat.le_refl _, fun b hg => .inl (hR.hr.nlt b (.inr hg)).1, fun d hd D ht => Marks.lt h4 hd ht⟩, ?_⟩
    · rintro G1 G2 A C ⟨q1, q2, q3, q4, q5, q6⟩ hu hg hb
      have hR2 := q1.stable hng hu hg hb
      refine ⟨hR2, q2.out (Outl.foreign (Γ := Γ) hu (fun b hx => ⟨.inr hx, (q1.g b hx).1⟩) fun b hx => ?_), ?_, Nat.le_trans q4 hu.size, fun b hx => (hg b hx).elim (q5 b) (fun h => .inr (by omega)), q6⟩
      · rcases hx with hx | hx
        · exact .inl (.inl hx)
        · exact (hg b hx).imp .inr id
      · have go : ∀ {ds : List Deferred}, Marks W.heap.size ds A → (∀ d ∈ ds, ∀ D, d.target = .collected D → D < W1.heap.size) → Marks W.heap.size ds C := by
          intro ds
          induction ds with
          | nil => intros; trivial
          | cons d ds ih =>
            rintro ⟨D, r1, r2, r3, r4, r5⟩ hlt
            have hD : D < W1.heap.size := hlt d (by simp) D (by rw [r1])
            refine ⟨D, r1, r2, (hu.block D (Array.getElem?_eq_some_iff.1 r3).1 fun hx => ?_).trans r3, r4, ih r5 fun d' hd' => hlt d' (by simp [hd'])⟩
            rcases q5 D hx with h | h <;> omega
        exact go q3 q6
    · rintro W2 ⟨q1, q2, q3, q4, q5, q6⟩ hl2
      have bd2 : Bd (Fence.wide.inRound l) (some W.heap.size) W2 := ⟨fun b e => by cases e; exact Nat.le_trans h3.upd.size q4, fun l' e => by cases e; exact hl2⟩
      refine wpIn_mono (h1 (startY P Γ KK (fun b => N b ∨ G b) S'.h ρ2 W2) _ ρ2 a1 W2 ⟨q1.hr, q2⟩ ⟨rfl, Step.refl _ _ _, Kept.refl _ _⟩ q3 bd2) ?_
      rintro e a3 W3 ⟨S3, ρ3, N3, Y3, r1, r2, r3, r4, _⟩
      have out : ∀ e, (startY P Γ KK (fun b => N b ∨ G b) S'.h ρ2 W2).I N3 S3.h ρ3 W3 → RndE KK (J (i + 1)) Jx e S3 → Upd (fun k => ¬ (G k ∨ Rd k)) W2 W3 ∧ ((e = .normal ∧ ∃ h ρ', J (i + 1) h ∧ RI KK P Γ N S.h ρ w G W3 h ρ') ∨ ((exC e).isSome = true ∧ ∃ h ρ', Jx e h ∧ RI KK P Γ N S.h ρ w G W3 h ρ')) := by
        rintro e r0 ⟨S4, hle, hJ4⟩
        obtain ⟨rfl, r3, r5⟩ := r0
        obtain ⟨ρ4, R4, s4, k4⟩ := hle P Γ _ ρ3 a3 W3 r2
        have hri := step q1 R4.hr (r3.trans s4) (r5.trans k4)
        exact ⟨r3.upd.mono fun b _ hm => off q1 b hm, hJ4.imp (fun ⟨x, y⟩ => ⟨x, S4.h, ρ4, y, hri⟩) (fun ⟨x, y⟩ => ⟨x, S4.h, ρ4, y, hri⟩)⟩
      cases e with
      | normal =>
        obtain ⟨rfl, r1⟩ := r1
        obtain ⟨o1, o2⟩ := out _ r3 r1
        rcases o2 with ⟨_, o2⟩ | ⟨o2, _⟩
        · exact ⟨o1, o2⟩
        · cases o2
      | ret =>
        obtain ⟨rfl, r1⟩ := r1
        obtain ⟨o1, o2⟩ := out _ r3 r1
        rcases o2 with ⟨o2, _⟩ | ⟨_, o2⟩
        · cases o2
        · exact ⟨o1, .ret, rfl, o2⟩
      | exit id =>
        obtain ⟨rfl, r1⟩ := r1
        obtain ⟨o1, o2⟩ := out _ r3 r1
        rcases o2 with ⟨o2, _⟩ | ⟨_, o2⟩
        · cases o2
        · exact ⟨o1, .exit id, rfl, o2⟩
      | goto t =>
        obtain ⟨rfl, r1⟩ := r1
        obtain ⟨o1, o2⟩ := out _ r3 r1
        rcases o2 with ⟨o2, _⟩ | ⟨o2, _⟩ <;> cases o2
      | panic c => exact r1.elim
      | outgrown => exact r1.elim
  | ret => exact h1.elim
  | exit id => exact h1.elim
  | goto t => exact h1.elim
  | panic c => exact h1.elim
  | outgrown => exact h1.elim

/-- A range over an iterator, outermost or in a round. -/
theorem Tr.range {F : Fence} (hFw : F = Fence.wide ∨ ∃ l, F = Fence.wide.inRound l) {B L : Nat} {Y : Yard P Γ L} {S : St} {g : Operand} {ps : Array Tmp} {assign body : Code} {Q : QY P Γ L} {k : Nat} {encs : List (Array Value)} (J : Nat → DH → Prop) (Jx : Exit → DH → Prop)
    (hg : opd S.fr g = .it k) (hk : S.h[k]? = some (some (.iter encs))) (hps : ∀ x ∈ encs, x.size = ps.size) {KK : Nat} (hL : L ≤ KK) (hfr : S.fr.all (refB KK) = true) (h0 : J 0 (S.h.set k none))
    (hround : Round P Γ S.fr ps.toList assign body KK J Jx encs) (hdone : ∀ h, J encs.length h → Q .normal ⟨S.fr, h⟩ Y) (hstop : ∀ e h, (exC e).isSome = true → Jx e h → Q e ⟨S.fr, h⟩ Y) : Tr P Γ F (some B) L Y (.rangeFunc g ps assign body) S Q := fun N ρ a w R y m b => by
  have hx := opd_rep R g
  rw [hg] at hx
  obtain ⟨p, hp, hv⟩ := hx
  obtain ⟨p', hp', gf, lb, Rd, ⟨e1, e2⟩, q2, q3, q4⟩ := R.hr.obj k _ hk
  have ep : p' = p := Option.some.inj (hp'.symm.trans hp)
  subst ep
  have hgv : a.eval g = .func (.func gf) #[] lb := hv.trans e1
  have hng : Γ.ng ≤ w.heap.size := Γ.lo _ R.hr.gi
  have hMk : ∀ b, p'.foot b → MO S.h ρ b := fun b hb => ⟨k, _, p', hk, hp, hb⟩
  have hI0 : ∃ h ρ', J 0 h ∧ RI KK P Γ N S.h ρ w p'.foot w h ρ' := by
    refine ⟨S.h.set k none, ρ, h0, ?_, Upd.refl _ _, fun b hb => .inl (MO.kill hb), fun b hb => ⟨(R.hr.cel k _ p' b hk hp hb).1, .inl (hMk b hb)⟩, Kept.refl _ _⟩
    have H1 : HRel P Γ N (S.h.set k none) ρ w := R.hr.kill k
    have hsub : ∀ b, MS (fun b => N b ∨ p'.foot b) (S.h.set k none) ρ b → MS N S.h ρ b := fun b hb => by
      rcases hb with (hb | hb) | hb
      · exact .inl hb
      · exact .inr (hMk b hb)
      · exact .inr (MO.kill hb)
    refine ⟨H1.len, fun i o hi => ?_, fun i o p2 b g1 g2 g3 => ?_, H1.dis, fun b hb => hb.elim (R.hr.nlt b) fun h => ⟨q4 b h, (R.hr.cel k _ p' b hk hp h).1⟩, R.hr.gi⟩
    · obtain ⟨hne, hi'⟩ := get_kill hi
      obtain ⟨p2, hp2, hr⟩ := R.hr.obj i o hi'
      exact ⟨p2, hp2, hr.out (out_iff hsub ρ) (S := fun _ => False) (Upd.refl _ _) (fun _ h => h.elim) fun _ _ _ h => h⟩
    · obtain ⟨hne, hi'⟩ := get_kill g1
      obtain ⟨c1, c2, c3⟩ := R.hr.cel i o p2 b hi' g2 g3
      exact ⟨c1, fun hb => hb.elim c2 fun hb => R.hr.dis i k o _ p2 p' b hne hi' hk g2 hp g3 hb, c3⟩
  have hst : ∀ i, Stable (fun G W => ∃ h ρ', J i h ∧ RI KK P Γ N S.h ρ w G W h ρ') := fun i G G' A C ⟨h, ρ', h1, h2⟩ hu hg' hb => ⟨h, ρ', h1, h2.stable hng hu hg' hb⟩
  have fin : ∀ {G : Nat → Prop} {W : World} {h : DH} {ρ' : List Place}, RI KK P Γ N S.h ρ w G W h ρ' → HRel P Γ N h ρ' W := fun {G W h ρ'} hR =>
    hR.hr.foreign (G := fun _ => False) (Upd.refl _ _) (fun _ h => h.elim) (fun b hb => .inl (.inl hb)) fun b hb => hR.hr.nlt b (.inl hb)
  have fst : ∀ {G : Nat → Prop} {W : World} {h : DH} {ρ' : List Place}, RI KK P Γ N S.h ρ w G W h ρ' → FrRep (MS N h ρ') W ρ' S.fr a.tmps := fun {G W h ρ'} hR =>
    ((R.fr.take hfr).out hR.outl).out (out_iff (fun b hb => hb.imp .inl id) ρ')
  have stp : ∀ {G : Nat → Prop} {W : World} {h : DH} {ρ' : List Place}, RI KK P Γ N S.h ρ w G W h ρ' → Step S.h ρ w h ρ' W := fun hR => ⟨hR.upd, hR.grow⟩
  have hsx : ∀ c, Stable (fun G W => ∃ e, exC e = some c ∧ ∃ h ρ', Jx e h ∧ RI KK P Γ N S.h ρ w G W h ρ') := fun c G G' A C ⟨e, he, h, ρ', h1, h2⟩ hu hg' hb => ⟨e, he, h, ρ', h1, h2.stable hng hu hg' hb⟩
  have kp : ∀ {G : Nat → Prop} {W : World} {h : DH} {ρ' : List Place}, RI KK P Γ N S.h ρ w G W h ρ' → Kept L ρ ρ' := fun hR k p hk hp => hR.kept k p (Nat.lt_of_lt_of_le hk hL) hp
  rcases hFw with rfl | ⟨l0, rfl⟩
  · have mk : ∀ {D : Nat} {G : Nat → Prop} {W : World} {h : DH} {ρ' : List Place}, RI KK P Γ N S.h ρ w G W h ρ' → W.heap[D]? = some (.deferred (some [])) → w.heap.size ≤ D → Marks B ({ target := .collected D, args := #[] } :: a.defers) W := fun {D G W h ρ'} hR hD hwD =>
      ⟨D, rfl, Nat.le_trans (b.le _ rfl) hwD, hD, fun d' hd' ht => by have := Marks.lt m hd' ht; omega, marks_step R.hr (stp hR) m⟩
    refine wpIn_rangeFunc_iter hgv e2 q2 (fun b hb => q4 b hb) (fun b hb => (q3 b hb).2) hps _ _ hst hsx hI0 (fun l G i x W hx hI hl hgl => range_round R hfr q3 hround G i x W hx hI hl hgl) ?_ ?_
    · rintro D G W ⟨h, ρ', h1, hR⟩ hD hGD hwD
      exact ⟨⟨S.fr, h⟩, ρ', N, Y, hdone h h1, ⟨fin hR, fst hR⟩, Y.st y R.hr (fin hR) (stp hR) (kp hR), mk hR hD hwD, b.step R.hr (stp hR)⟩
    · rintro D c G W ⟨e, he, h, ρ', h1, hR⟩ hD hGD hwD
      have hq := hstop e h (by rw [he]; rfl) h1
      cases e with
      | ret => cases he; exact wpIn_ret ⟨⟨S.fr, h⟩, ρ', N, Y, hq, ⟨fin hR, fst hR⟩, Y.st y R.hr (fin hR) (stp hR) (kp hR), mk hR hD hwD, b.step R.hr (stp hR)⟩
      | exit id => cases he; exact wpIn_exit ⟨⟨S.fr, h⟩, ρ', N, Y, hq, ⟨fin hR, fst hR⟩, Y.st y R.hr (fin hR) (stp hR) (kp hR), mk hR hD hwD, b.step R.hr (stp hR)⟩
      | normal => cases he
      | goto t => cases he
      | panic c => cases he
      | outgrown => cases he
  · refine wpIn_rangeFunc_inner hgv e2 (b.rd l0 rfl) q2 (fun b hb => q4 b hb) (fun b hb => (q3 b hb).2) hps _ _ hst hsx hI0 (fun l G i x W hx hI hl hgl => range_round R hfr q3 hround G i x W hx hI hl hgl) ?_ ?_
    · rintro G W ⟨h, ρ', h1, hR⟩
      exact ⟨⟨S.fr, h⟩, ρ', N, Y, hdone h h1, ⟨fin hR, fst hR⟩, Y.st y R.hr (fin hR) (stp hR) (kp hR), marks_step R.hr (stp hR) m, b.step R.hr (stp hR)⟩
    · rintro c G W ⟨e, he, h, ρ', h1, hR⟩
      have hq := hstop e h (by rw [he]; rfl) h1
      cases e with
      | ret => cases he; exact wpIn_ret ⟨⟨S.fr, h⟩, ρ', N, Y, hq, ⟨fin hR, fst hR⟩, Y.st y R.hr (fin hR) (stp hR) (kp hR), marks_step R.hr (stp hR) m, b.step R.hr (stp hR)⟩
      | exit id => cases he; exact wpIn_exit ⟨⟨S.fr, h⟩, ρ', N, Y, hq, ⟨fin hR, fst hR⟩, Y.st y R.hr (fin hR) (stp hR) (kp hR), marks_step R.hr (stp hR) m, b.step R.hr (stp hR)⟩
      | normal => cases he
      | goto t => cases he
      | panic c => cases he
      | outgrown => cases he

/-- A fold that may fail, and may be left early: the number says how (0: it is not). -/
def foldX {α σ : Type} (f : α → σ → Option (σ × Nat)) : List α → σ → Option (σ × Nat)
  | [], s => some (s, 0)
  | x :: l, s => (f x s).bind fun r => bif r.2 == 0 then foldX f l r.1 else some r
/-- A fold that may fail. -/
def foldO {α σ : Type} (f : α → σ → Option σ) : List α → σ → Option σ
  | [], s => some s
  | x :: l, s => (f x s).bind (foldO f l)
theorem foldO_X {α σ : Type} (f : α → σ → Option σ) : ∀ (l : List α) (s : σ), foldX (fun x s => (f x s).map fun s' => (s', 0)) l s = (foldO f l s).map fun s' => (s', 0)
  | [], s => rfl
  | x :: l, s => by
    simp only [foldX, foldO]
    cases f x s with
    | none => rfl
    | some s' => exact foldO_X f l s'
/-- What a round is to end in: ex lists the ways out. -/
def RndQ (L : Nat) (ex : List Exit) (c : Nat) (h' : DH) (e : Exit) (S : St) : Prop := (Exit.normal :: ex)[c]? = some e ∧ ∃ S3, SLe L S S3 ∧ S3.h = h'
theorem RndQ.le {L : Nat} {ex : List Exit} {c : Nat} {h' : DH} {e : Exit} {S S' : St} (hS : SLe L S S') (h : RndQ L ex c h' e S') : RndQ L ex c h' e S := by
  obtain ⟨h1, S3, h2, h3⟩ := h
  exact ⟨h1, S3, hS.trans h2, h3⟩
/-- The assignments ahead of a round. -/
def TrA (P : Program) (Γ : Glo) (F : Fence) (B : Option Nat) (L : Nat) (N : Yard P Γ L) (Q : Exit → St → Prop) (assign body : Code) (S : St) : Prop :=
  Tr P Γ F B L N assign S (thenQ (fun S' Y' => Y' = N ∧ ∀ N2 : Yard P Γ L, TrK P Γ F B L N2 Q [.code body] S') (fun _ _ _ => False))
theorem TrA.go {F : Fence} {B : Option Nat} {L : Nat} {N : Yard P Γ L} {Q : Exit → St → Prop} (hF : FOk F P) (hm : P.follows .mixedOrders = true) {assign body : Code} {S : St} (sch : Sch) (n : Nat) (o : Orc) (live σ : List Nat) (fr : List DV) (h' : DH) (vs : List Prop)
    (h : (krun P Γ sch n [.code assign] S o).map (outC live σ L) = some (.at [], fr, h', vs, [], [], true)) (hv : allP vs) (hk : ∀ N2 : Yard P Γ L, TrK P Γ F B L N2 Q [.code body] ⟨fr, h'⟩) : TrA P Γ F B L N Q assign body S := by
  obtain ⟨S', _, h1, hs⟩ := outC_spec h
  have T := krun_sound (F := F) (B := B) (L := L) (Y := N) (Q := fun e S2 Y2 => e = .normal ∧ Y2 = N ∧ ∀ N2 : Yard P Γ L, TrK P Γ F B L N2 Q [.code body] S2) hF hm n [.code assign] S o _ _ _ _ h1 hv ⟨rfl, rfl, fun N2 => TrK.le hs rfl (hk N2)⟩
  refine Tr.mono (show Tr P Γ F B L N assign S _ from T) fun e S2 Y2 hq => ?_
  cases e with
  | normal => exact hq.2
  | ret => exact absurd hq.1 (by simp)
  | exit id => exact absurd hq.1 (by simp)
  | goto t => exact absurd hq.1 (by simp)
  | panic c => exact absurd hq.1 (by simp)
  | outgrown => exact absurd hq.1 (by simp)
theorem TrK.rangeFold {F : Fence} (hFw : F = Fence.wide ∨ ∃ l, F = Fence.wide.inRound l) {B L : Nat} {Y : Yard P Γ L} {Q : QY P Γ L} {S : St} {g : Operand} {ps : Array Tmp} {assign body : Code} {k : List KI} {kk : Nat} {α σ : Type} (ex : List Exit) (hex : (ex.all fun e => (exC e).isSome) = true) (enc : α → Array Value) (l : List α) (H : σ → DH) (f : α → σ → Option (σ × Nat)) {s0 : σ} {rE : σ × Nat} (hf : foldX f l s0 = some rE)
    (hg : opd S.fr g = .it kk) (hk : S.h[kk]? = some (some (.iter (l.map enc)))) (hps : ∀ x, (enc x).size = ps.size) {K : Nat} (hL : L ≤ K) (hfr : S.fr.all (refB K) = true) (h0 : S.h.set kk none = H s0)
    (hround : ∀ (l B : Nat) (N : Yard P Γ K) (x : α) (s : σ) (r : σ × Nat), f x s = some r → TrA P Γ (Fence.wide.inRound l) (some B) K N (RndQ K ex r.2 (H r.1)) assign body ⟨setPs S.fr ps.toList (enc x).toList, H s⟩)
    (hdone : ∀ e, (Exit.normal :: ex)[rE.2]? = some e → TrE P Γ F (some B) L Q k e ⟨S.fr, H rE.1⟩ Y) : TrG P Γ F (some B) L Y Q (.code (.rangeFunc g ps assign body) :: k) S := by
  refine Tr.range (Q := TrE P Γ F (some B) L Q k) (KK := K) hFw (fun i h => ∃ s, foldX f (l.drop i) s = some rE ∧ h = H s) (fun e h => (Exit.normal :: ex)[rE.2]? = some e ∧ h = H rE.1) hg hk (fun x hx => ?_) hL hfr ⟨s0, hf, h0⟩ ?_ ?_ ?_
  · obtain ⟨y, _, rfl⟩ := List.mem_map.1 hx
    exact hps y
  · rintro l' B' N' i x h hx ⟨s, hs, rfl⟩
    rw [List.getElem?_map] at hx
    cases hy : l[i]? with
    | none => rw [hy] at hx; cases hx
    | some y =>
      rw [hy] at hx
      cases hx
      have hlt := (List.getElem?_eq_some_iff.1 hy).1
      have hd : l.drop i = y :: l.drop (i + 1) := by
        rw [List.drop_eq_getElem_cons hlt]
        congr 1
        exact (List.getElem?_eq_some_iff.1 hy).2
      rw [hd] at hs
      obtain ⟨r, h1, h2⟩ := bindSome hs
      have T := hround l' B' N' y s r h1
      have fin : ∀ {e : Exit} {S2 : St}, RndQ K ex r.2 (H r.1) e S2 → RndE K (fun h => ∃ s, foldX f (l.drop (i + 1)) s = some rE ∧ h = H s) (fun e h => (Exit.normal :: ex)[rE.2]? = some e ∧ h = H rE.1) e S2 := by
        rintro e S2 ⟨r1, S3, r2, r3⟩
        refine ⟨S3, r2, ?_⟩
        cases hc : r.2 with
        | zero =>
          rw [hc] at r1 h2
          cases r1
          exact .inl ⟨rfl, r.1, h2, r3⟩
        | succ c =>
          rw [hc] at r1 h2
          cases h2
          have : e ∈ ex := List.mem_of_getElem? (i := c) r1
          exact .inr ⟨List.all_eq_true.1 hex e this, by rw [hc]; exact r1, r3⟩
      refine Tr.mono T fun e S2 Y2 hq => ?_
      cases e with
      | normal => exact ⟨hq.1, fun N2 => Tr.mono (show Tr P Γ (Fence.wide.inRound l') (some B') K N2 body S2 (stay N2 (RndQ K ex r.2 (H r.1))) from hq.2 N2) fun e S3 Y3 h3 => ⟨h3.1, fin h3.2⟩⟩
      | ret => exact hq.elim
      | exit id => exact hq.elim
      | goto t => exact hq.elim
      | panic c => exact hq.elim
      | outgrown => exact hq.elim
  · rintro h ⟨s, hs, rfl⟩
    rw [List.length_map, List.drop_length] at hs
    cases hs
    exact hdone .normal rfl
  · rintro e h he ⟨h1, rfl⟩
    exact hdone e h1
theorem TrK.finR {F : Fence} {B : Option Nat} {L : Nat} {N : Yard P Γ L} (hF : FOk F P) (hm : P.follows .mixedOrders = true) {ex : List Exit} {c : Nat} {h2 : DH} {k : List KI} {S : St} (sch : Sch) (n : Nat) (o : Orc) (live σ : List Nat) (fr : List DV) (h' : DH) (vs : List Prop)
    (h : (krun P Γ sch n k S o).map (outC live σ L) = some (.at [], fr, h', vs, [], [], true)) (hv : allP vs) (hh : h' = h2) (hc : c = 0) : TrK P Γ F B L N (RndQ L ex c h2) k S := by
  obtain ⟨S', _, h1, hs⟩ := outC_spec h
  subst hc
  exact krun_sound hF hm n k S o _ _ _ _ h1 hv ⟨rfl, rfl, _, hs, hh⟩
theorem TrK.retR {F : Fence} {B : Option Nat} {L : Nat} {N : Yard P Γ L} (hF : FOk F P) (hm : P.follows .mixedOrders = true) {ex : List Exit} {c : Nat} {h2 : DH} {k : List KI} {S : St} (sch : Sch) (n : Nat) (o : Orc) (live σ : List Nat) (fr : List DV) (h' : DH) (vs : List Prop)
    (h : (krun P Γ sch n k S o).map (outC live σ L) = some (.ret, fr, h', vs, [], [], true)) (hv : allP vs) (hh : h' = h2) (hc : (Exit.normal :: ex)[c]? = some .ret) : TrK P Γ F B L N (RndQ L ex c h2) k S := by
  obtain ⟨S', _, h1, hs⟩ := outC_spec h
  exact krun_sound hF hm n k S o _ _ _ _ h1 hv ⟨rfl, hc, _, hs, hh⟩
theorem exit_pass {F : Fence} {B : Option Nat} {L : Nat} {Y : Yard P Γ L} {Q : QY P Γ L} {S : St} {id : Nat} (h : Q (.exit id) S Y) : ∀ (k : List KI), popTo id k = none → TrE P Γ F B L Q k (.exit id) S Y
  | [], _ => h
  | .blk i :: k, hp => by
    unfold popTo at hp
    split at hp
    · cases hp
    · rename_i e
      show (if id = i then _ else _)
      rw [if_neg e]
      exact exit_pass h k hp
  | .code c :: k, hp => exit_pass (k := k) h hp
  | .lend J :: k, hp => exit_pass (k := k) h hp
  | .scp :: k, hp => exit_pass (k := k) h hp
  | .loopN m b :: k, hp => exit_pass (k := k) h hp
/-- Out of the range by a jump. -/
def isExit (id : Nat) : List KI → Bool
  | .code (.exit i) :: k => decide (i = id) && (popTo id k).isNone
  | _ => false
def outX (live σ : List Nat) (L id : Nat) (r : KO × St × List Prop × Orc) := ((match r.1 with | .at k => isExit id k | .ret => false), (outC live σ L r).2)
theorem TrK.exitR {F : Fence} {B : Option Nat} {L : Nat} {N : Yard P Γ L} (hF : FOk F P) (hm : P.follows .mixedOrders = true) {ex : List Exit} {c : Nat} {h2 : DH} {k : List KI} {S : St} (id : Nat) (sch : Sch) (n : Nat) (o : Orc) (live σ : List Nat) (fr : List DV) (h' : DH) (vs : List Prop)
    (h : (krun P Γ sch n k S o).map (outX live σ L id) = some (true, fr, h', vs, [], [], true)) (hv : allP vs) (hh : h' = h2) (hc : (Exit.normal :: ex)[c]? = some (.exit id)) : TrK P Γ F B L N (RndQ L ex c h2) k S := by
  cases hr : krun P Γ sch n k S o with
  | none => rw [hr] at h; cases h
  | some r =>
    rw [hr] at h
    have h2' := Option.some.inj h
    unfold outX at h2'
    injection h2' with e1 e2
    have hg : (krun P Γ sch n k S o).map (outC live σ L) = some (r.1, fr, h', vs, [], [], true) := by
      rw [hr]
      show some (outC live σ L r) = _
      rw [← e2]; rfl
    obtain ⟨S', _, h1, hs⟩ := outC_spec hg
    refine krun_sound hF hm n k S o _ _ _ _ h1 hv ?_
    split at e1
    · rename_i k' hk
      rw [hk]
      unfold isExit at e1
      split at e1
      · rename_i i k2
        simp only [Bool.and_eq_true, decide_eq_true_eq, Option.isNone_iff_eq_none] at e1
        obtain ⟨rfl, hn⟩ := e1
        exact Tr.exit (exit_pass ⟨rfl, hc, _, hs, hh⟩ k2 hn)
      · cases e1
    · cases e1
end
/-- The parts of a range, found by the temporary that holds its iterator. -/
def rgC (t : Nat) : Code → Option (Array Tmp × Code × Code)
  | .rangeFunc (.tmp t') ps a b => if t' = t then some (ps, a, b) else rgC t b
  | .seq a b => match rgC t a with
    | some r => some r
    | none => rgC t b
  | .cond _ a b => match rgC t a with
    | some r => some r
    | none => rgC t b
  | .block _ c => rgC t c
  | .loop c => rgC t c
  | .scope c => rgC t c
  | _ => none
def rgF (f : Func) (t : Nat) : Array Tmp × Code × Code := match f.body with
  | some c => (rgC t c).getD (#[], .skip, .skip)
  | none => (#[], .skip, .skip)
def rgB (f : Func) (t : Nat) : Code := (rgF f t).2.2
def rgA (f : Func) (t : Nat) : Code := (rgF f t).2.1
def bodyC (f : Func) : Code := f.body.getD .skip
def popK (id : Nat) (k : List KI) : List KI := (popTo id k).getD []
theorem TrE.exitTo {P : Program} {Γ : Glo} {F : Fence} {B : Option Nat} {L : Nat} {Y : Yard P Γ L} {Q : QY P Γ L} {id : Nat} {k : List KI} {S : St} (h : (popTo id k).isSome = true) (hk : TrG P Γ F B L Y Q (popK id k) S) : TrE P Γ F B L Q k (.exit id) S Y := by
  unfold popK at hk
  cases hp : popTo id k with
  | none => rw [hp] at h; cases h
  | some k' => rw [hp] at hk; exact popTo_sound hp hk
def rgSplit : List KI → Option (Operand × Array Tmp × Code × Code × List KI)
  | .code (.rangeFunc g ps a b) :: k => some (g, ps, a, b, k)
  | _ => none
/-- A range, where it stands. -/
theorem TrK.rangeAt {P : Program} {Γ : Glo} {F : Fence} (hFw : F = Fence.wide ∨ ∃ l, F = Fence.wide.inRound l) {B L : Nat} {Y : Yard P Γ L} {Q : QY P Γ L} {fr : List DV} {h : DH} {K : List KI} (ex : List Exit) (hex : (ex.all fun e => (exC e).isSome) = true) (g : Operand) (ps : Array Tmp) (a b : Code) (k2 : List KI) {kk : Nat} {α σ : Type} (enc : α → Array Value) (l : List α) (H : σ → DH) (FR : α → List DV) (f : α → σ → Option (σ × Nat)) {s0 : σ} {rE : σ × Nat} (hf : foldX f l s0 = some rE)
    (hK : rgSplit K = some (g, ps, a, b, k2)) (hg : opd fr g = .it kk) (hk : h[kk]? = some (some (.iter (l.map enc)))) (hps : ∀ x, (enc x).size = ps.size) (L' : Nat) (hL : Nat.ble L L' = true) (hfb : fr.all (refB L') = true) (h0 : h.set kk none = H s0) (hfr : (fun x => setPs fr ps.toList (enc x).toList) = FR)
    (hround : ∀ (l B : Nat) (N : Yard P Γ L') (x : α) (s : σ) (r : σ × Nat), f x s = some r → TrA P Γ (Fence.wide.inRound l) (some B) L' N (RndQ L' ex r.2 (H r.1)) a b ⟨FR x, H s⟩)
    (hdone : ∀ e, (Exit.normal :: ex)[rE.2]? = some e → TrE P Γ F (some B) L Q k2 e ⟨fr, H rE.1⟩ Y) : TrG P Γ F (some B) L Y Q K ⟨fr, h⟩ := by
  unfold rgSplit at hK
  split at hK
  · cases hK
    subst hfr
    exact TrK.rangeFold hFw ex hex enc l H f hf hg hk hps (Nat.le_of_ble_eq_true hL) hfb h0 hround hdone
  · cases hK
/-- The same, where no round leaves the range. -/
theorem TrK.rangeAt0 {P : Program} {Γ : Glo} {F : Fence} (hFw : F = Fence.wide ∨ ∃ l, F = Fence.wide.inRound l) {B L : Nat} {Y : Yard P Γ L} {Q : QY P Γ L} {fr : List DV} {h : DH} {K : List KI} (g : Operand) (ps : Array Tmp) (a b : Code) (k2 : List KI) {kk : Nat} {α σ : Type} (enc : α → Array Value) (l : List α) (H : σ → DH) (FR : α → List DV) (f : α → σ → Option σ) {s0 sE : σ} (hf : foldO f l s0 = some sE)
    (hK : rgSplit K = some (g, ps, a, b, k2)) (hg : opd fr g = .it kk) (hk : h[kk]? = some (some (.iter (l.map enc)))) (hps : ∀ x, (enc x).size = ps.size) (L' : Nat) (hL : Nat.ble L L' = true) (hfb : fr.all (refB L') = true) (h0 : h.set kk none = H s0) (hfr : (fun x => setPs fr ps.toList (enc x).toList) = FR)
    (hround : ∀ (l B : Nat) (N : Yard P Γ L') (x : α) (s r : σ), f x s = some r → TrA P Γ (Fence.wide.inRound l) (some B) L' N (RndQ L' [] 0 (H r)) a b ⟨FR x, H s⟩)
    (hdone : TrG P Γ F (some B) L Y Q k2 ⟨fr, H sE⟩) : TrG P Γ F (some B) L Y Q K ⟨fr, h⟩ := by
  refine TrK.rangeAt hFw [] rfl g ps a b k2 enc l H FR (fun x s => (f x s).map fun s' => (s', 0)) (rE := (sE, 0)) (by rw [foldO_X, hf]; rfl) hK hg hk hps L' hL hfb h0 hfr (fun l' B' N' x s r hr => ?_) (fun e he => ?_)
  · cases hx : f x s with
    | none => rw [hx] at hr; cases hr
    | some s' =>
      rw [hx] at hr
      cases hr
      exact hround l' B' N' x s s' hx
  · cases he
    exact hdone
/-- Where a range stands. -/
def findT (t : Nat) : List Nat → Code → List KI → Option (List KI)
  | ms, .seq a b, k => match findT t ms a (.code b :: k) with
    | some r => some r
    | none => findT t ms b k
  | ms, .cond _ a b, k => match findT t ms a k with
    | some r => some r
    | none => findT t ms b k
  | ms, .block i c, k => findT t ms c (.blk i :: k)
  | ms, .scope c, k => findT t ms c (.scp :: k)
  | m :: ms, .loop b, k => findT t ms b (.loopN m b :: k)
  | _, .rangeFunc (.tmp t') ps a b, k => if t' = t then some (.code (.rangeFunc (.tmp t') ps a b) :: k) else none
  | _, _, _ => none
def atT (c : Code) (t : Nat) (ms : List Nat) : List KI := (findT t ms c []).getD []
def atNC (c : Code) (id : Nat) (ms : List Nat) : List KI := (findN id ms c []).getD []
def atGC (c : Code) (id : Nat) (ms : List Nat) : List KI := (findG id ms c []).getD []
end Go.Proofs.YtekkngkphejfcaaDoor
