/- Runs with hints: what an oracle answers stands beside why it may; short rules for printed proofs. -/
import Derived.Test.YtekkngkphejfcaaDoorDabb
import Derived.Test.YtekkngkphejfcaaDoorDiter
namespace Go.Proofs.YtekkngkphejfcaaDoor
open Go.RowKit

structure HX (F : Fence) (P : Program) : Prop where
  f : FOk F P
  m : P.follows .mixedOrders = true

/-- Hints, in the order of the steps: coercions, bounds, calls, rows read otherwise, rows that become lists. -/
inductive HL (P : Program) (Γ : Glo) : List (DV × DH × Bool) → List (Nat × DV) → List (Nat × Fz) → List Prop → Prop
  | e : HL P Γ [] [] [] []
  | o (t : Nat) {d d' : DV} (x : DLe d d') {c : List (DV × DH × Bool)} {o : List (Nat × DV)} {z : List (Nat × Fz)} {v : List Prop} (r : HL P Γ c o z v) : HL P Γ c ((t, d') :: o) z (DLe d d' :: v)
  | g {p : Prop} (x : p) {c : List (DV × DH × Bool)} {o : List (Nat × DV)} {z : List (Nat × Fz)} {v : List Prop} (r : HL P Γ c o z v) : HL P Γ c o z (p :: v)
  | c {f : Nat} {ds : List DV} {h : DH} {d : DV} {h' : DH} {e : Bool} (x : ES P Γ f ds h d h' e) {c : List (DV × DH × Bool)} {o : List (Nat × DV)} {z : List (Nat × Fz)} {v : List Prop} (r : HL P Γ c o z v) : HL P Γ ((d, h', e) :: c) o z (ES P Γ f ds h d h' e :: v)
  | a (t k m : Nat) {n n' : Nat} {f f' : Nat → Nat → DV} (x : n = n' ∧ ∀ i j, i < n → j < m → DLe (f i j) (f' i j)) {c : List (DV × DH × Bool)} {o : List (Nat × DV)} {z : List (Nat × Fz)} {v : List Prop} (r : HL P Γ c o z v) : HL P Γ c o ((t, .arr k n' f') :: z) ((n = n' ∧ ∀ i j, i < n → j < m → DLe (f i j) (f' i j)) :: v)
  | z (t k : Nat) {c : List (DV × DH × Bool)} {o : List (Nat × DV)} {z : List (Nat × Fz)} {v : List Prop} (r : HL P Γ c o z v) : HL P Γ c o ((t, .frz k) :: z) v
theorem HL.all {P : Program} {Γ : Glo} {c : List (DV × DH × Bool)} {o : List (Nat × DV)} {z : List (Nat × Fz)} {v : List Prop} (h : HL P Γ c o z v) : allP v := by
  induction h with
  | e => trivial
  | o t x r ih => exact ⟨x, ih⟩
  | g x r ih => exact ⟨x, ih⟩
  | c x r ih => exact ⟨x, ih⟩
  | a t k m x r ih => exact ⟨x, ih⟩
  | z t k r ih => exact ih

theorem ES.emC {P : Program} {Γ : Glo} {f : Nat} {ds : List DV} {h : DH} {d : DV} {h' : DH} {ext : Bool} (hES : ES P Γ f ds h d h' ext) (σ : List Nat) (H : DH) (hb : embB σ H.length h.length h'.length = true) (hh : (σ.map fun k => H.getD k none) = h.map (upO σ H.length)) : ES P Γ f (ds.map (up σ H.length)) H (up σ H.length d) (embH H σ h') ext :=
  hES.embedB σ H hb hh rfl
theorem oneR {α : Type} [Inhabited α] (c : α → List DV) (L : List α) (n m : Nat) (h : ∀ x, (c x).all oneC = true ∧ m = (c x).length) : ∀ i j, i < n → j < m → oneC (rowE c L i j) = true := fun i j _ hj => oneC_all (h _).1 (h _).2 j hj
/-- Rows become lists, one after the other. -/
def frzL : List Nat → St → Option (St × List Prop)
  | [], S => some (S, [])
  | k :: ks, S => match frzX k S with
    | some (S', vs) => match frzL ks S' with
      | some (S'', vs') => some (S'', vs ++ vs')
      | none => none
    | none => none
theorem SLe.frzL {L : Nat} : ∀ (ks : List Nat) {S S' : St} {vs : List Prop}, Proofs.YtekkngkphejfcaaDoor.frzL ks S = some (S', vs) → allP vs → SLe L S S'
  | [], S, S', vs, h, _ => by cases h; exact SLe.refl L S
  | k :: ks, S, S', vs, h, hv => by
    simp only [Proofs.YtekkngkphejfcaaDoor.frzL] at h
    split at h
    · rename_i S1 vs1 h1
      split at h
      · rename_i S2 vs2 h2
        cases h
        obtain ⟨hv1, hv2⟩ := allP_append.1 hv
        exact (SLe.frzE k S1 vs1 h1 hv1).trans (SLe.frzL ks h2 hv2)
      · cases h
    · cases h
abbrev ROut := List Prop × List Prop × List (DV × DH × Bool) × List (Nat × DV) × Bool
def rOut (σ : List Nat) (L : Nat) (w : List Prop) (r : KO × St × List Prop × Orc) : ROut := (r.2.2.1, w, r.2.2.2.calls, r.2.2.2.co, sigB σ L r.2.1.h.length)
def outF (live σ : List Nat) (L : Nat) (ks : List Nat) (r : KO × St × List Prop × Orc) : Option (KO × List DV × DH × ROut) := match frzL ks (comp live σ r.2.1) with
  | some (S, w) => some (r.1, S.fr, S.h, rOut σ L w r)
  | none => none
/-- How a run ended. -/
def koE : KO → Option Exit
  | .ret => some .ret
  | .at [] => some .normal
  | .at (.code (.exit i) :: k) => if (popTo i k).isNone then some (.exit i) else none
  | _ => none
def outE (P : Program) (live σ : List Nat) (L : Nat) (ks : List Nat) (fn : Func) (d : DV) (l2 : Nat) (r : KO × St × List Prop × Orc) : Option (Bool × List DV × DH × ROut) := match frzL ks (comp live σ r.2.1) with
  | some (S, w) => match resL P S fn.results.toList with
    | some rs => some ((match r.1 with | .ret => true | .at [] => true | _ => false) && (decide (S.h.length ≤ l2) || (S.h.all noIterD && nrefB d && decide (L ≤ S.h.length))), rs, (if S.h.length ≤ l2 then S.h else (compactX (List.range L) S).h), rOut σ L w r)
    | none => none
  | none => none
def outR (σ : List Nat) (L : Nat) (r : KO × St × List Prop × Orc) : Option Exit × DH × ROut := (koE r.1, (comp [] σ r.2.1).h, rOut σ L [] r)

section
variable {P : Program} {Γ : Glo} {F : Fence} {B : Option Nat} {L : Nat} {Y N : Yard P Γ L} {Q : QY P Γ L} {k k' : List KI} {S : St} {fr : List DV} {h' h2 : DH} {c : List (DV × DH × Bool)} {o : List (Nat × DV)} {z : List (Nat × Fz)} {v w : List Prop}

theorem outF_spec {live σ ks : List Nat} {r : KO × St × List Prop × Orc} {r1 : KO} (h : outF live σ L ks r = some (r1, fr, h', v, w, [], [], true)) (hw : allP w) : r.1 = r1 ∧ r.2.2.1 = v ∧ SLe L r.2.1 ⟨fr, h'⟩ := by
  unfold outF at h
  split at h
  · rename_i S1 w1 hf
    simp only [rOut, Option.some.injEq, Prod.mk.injEq] at h
    obtain ⟨rfl, rfl, rfl, rfl, rfl, _, _, hs⟩ := h
    exact ⟨rfl, rfl, (SLe.comp live σ r.2.1 hs).trans (SLe.frzL ks hf hw)⟩
  · cases h
/-- On, to a place that is known. -/
theorem TrK.gS (hX : HX F P) (sch : Sch) (n : Nat) (live σ : List Nat) (tg : List (List (Nat × Nat) × St)) (hl : HL P Γ c o z v) (ks : List Nat) (hz : HL P Γ [] [] [] w) (k' : List KI) (fr : List DV) (h' : DH)
    (h : (krun P Γ sch n k S ⟨c, o, z, tg⟩).bind (outF live σ L ks) = some (.at k', fr, h', v, w, [], [], true)) (hc : isCode k' = true) (hk : TrG P Γ F B L Y Q k' ⟨fr, h'⟩) : TrG P Γ F B L Y Q k S := by
  cases hr : krun P Γ sch n k S ⟨c, o, z, tg⟩ with
  | none => rw [hr] at h; cases h
  | some r =>
    obtain ⟨r1, S1, v1, o1⟩ := r
    rw [hr] at h
    obtain ⟨e1, e2, hs⟩ := outF_spec (r := (r1, S1, v1, o1)) h hz.all
    have e1 : r1 = .at k' := e1
    have e2 : v1 = v := e2
    subst e1 e2
    exact krun_sound hX.f hX.m n k S _ _ _ _ _ hr hl.all (TrK.le hs hc hk)
theorem TrK.g (hX : HX F P) (sch : Sch) (n : Nat) (live σ : List Nat) (tg : List (List (Nat × Nat) × St)) (hl : HL P Γ c o z v) (hk : TrG P Γ F B L Y Q k' ⟨fr, h'⟩)
    (h : (krun P Γ sch n k S ⟨c, o, z, tg⟩).bind (outF live σ L []) = some (.at k', fr, h', v, [], [], [], true)) (hc : isCode k' = true) : TrG P Γ F B L Y Q k S :=
  TrK.gS hX sch n live σ tg hl [] .e k' fr h' h hc hk
/-- A function's end; what it hands out is read otherwise. -/
theorem TrK.el (hX : HX F P) {fn : Func} {d : DV} (sch : Sch) (n : Nat) (live σ : List Nat) (tg : List (List (Nat × Nat) × St)) (hl : HL P Γ c o z v) (ks : List Nat) (hz : HL P Γ [] [] [] w) (rs : List DV) (le : DLe (tupD rs) d)
    (h : (krun P Γ sch n k S ⟨c, o, z, tg⟩).bind (outE P live σ L ks fn d h2.length) = some (true, rs, h2, v, w, [], [], true)) : TrK P Γ F B L N (Fin P fn L d h2) k S := by
  cases hr : krun P Γ sch n k S ⟨c, o, z, tg⟩ with
  | none => rw [hr] at h; cases h
  | some r =>
    obtain ⟨r1, S1, v1, o1⟩ := r
    rw [hr] at h
    have h : outE P live σ L ks fn d h2.length (r1, S1, v1, o1) = some (true, rs, h2, v, w, [], [], true) := h
    unfold outE at h
    split at h
    · rename_i S2 w1 hf
      split at h
      · rename_i rs' hrs
        simp only [rOut, Option.some.injEq, Prod.mk.injEq, Bool.and_eq_true] at h
        obtain ⟨⟨hret, hq⟩, rfl, hh, rfl, rfl, _, _, hs⟩ := h
        have hS : SLe L S1 S2 := (SLe.comp live σ S1 hs).trans (SLe.frzL ks hf hz.all)
        have fin : ∀ e, (e = .normal ∨ e = .ret) → Fin P fn L d h2 e S1 := fun e he => by
          refine Fin.le hS ⟨he, S2, SLe.refl _ _, rs', hrs, ?_⟩
          by_cases hlen : S2.h.length ≤ h2.length
          · rw [if_pos hlen] at hh; exact .inl ⟨le, hh⟩
          · rw [if_neg hlen] at hh
            simp only [hlen, decide_false, Bool.false_or, Bool.and_eq_true, decide_eq_true_eq] at hq
            exact .inr ⟨noIterB hq.1.1, le, nrefB_ok hq.1.2, hq.2, hh⟩
        refine krun_sound hX.f hX.m n k S _ _ _ _ _ hr hl.all ?_
        cases r1 with
        | ret => exact ⟨rfl, fin _ (.inr rfl)⟩
        | «at» k1 => cases k1 with
          | nil => exact ⟨rfl, fin _ (.inl rfl)⟩
          | cons _ _ => cases hret
      · cases h
    · cases h
/-- A function's end. -/
theorem TrK.e (hX : HX F P) {fn : Func} {d : DV} (sch : Sch) (n : Nat) (live σ : List Nat) (tg : List (List (Nat × Nat) × St)) (hl : HL P Γ c o z v) (ks : List Nat) (hz : HL P Γ [] [] [] w)
    (h : (krun P Γ sch n k S ⟨c, o, z, tg⟩).bind (fun r => (outE P live σ L ks fn d h2.length r).map fun q => (q.1, tupD q.2.1, q.2.2)) = some (true, d, h2, v, w, [], [], true)) : TrK P Γ F B L N (Fin P fn L d h2) k S := by
  cases hr : krun P Γ sch n k S ⟨c, o, z, tg⟩ with
  | none => rw [hr] at h; cases h
  | some r =>
    rw [hr] at h
    have h : (outE P live σ L ks fn d h2.length r).map (fun q => (q.1, tupD q.2.1, q.2.2)) = some (true, d, h2, v, w, [], [], true) := h
    cases hq : outE P live σ L ks fn d h2.length r with
    | none => rw [hq] at h; cases h
    | some q =>
      obtain ⟨q1, rs, q3⟩ := q
      rw [hq] at h
      simp only [Option.map_some, Option.some.injEq, Prod.mk.injEq] at h
      obtain ⟨rfl, hd, rfl⟩ := h
      exact TrK.el hX sch n live σ tg hl ks hz rs (DLe.of_eq hd) (by rw [hr]; exact hq)
def outZ (P : Program) (L : Nat) (ks : List Nat) (fn : Func) (d : DV) (l2 : Nat) (S : St) : Option (Bool × List DV × DH × List Prop) := match frzL ks S with
  | some (S, w) => match resL P S fn.results.toList with
    | some rs => some (decide (S.h.length ≤ l2) || (S.h.all noIterD && nrefB d && decide (L ≤ S.h.length)), rs, (if S.h.length ≤ l2 then S.h else (compactX (List.range L) S).h), w)
    | none => none
  | none => none
theorem Fin.el {fn : Func} {d : DV} {e : Exit} (he : e = .normal ∨ e = .ret) (ks : List Nat) (hz : HL P Γ [] [] [] w) (rs : List DV) (le : DLe (tupD rs) d) (h : outZ P L ks fn d h2.length S = some (true, rs, h2, w)) : Fin P fn L d h2 e S := by
  unfold outZ at h
  split at h
  · rename_i S2 w1 hf
    split at h
    · rename_i rs' hrs
      simp only [Option.some.injEq, Prod.mk.injEq] at h
      obtain ⟨hq, rfl, hh, rfl⟩ := h
      refine Fin.le (SLe.frzL ks hf hz.all) ⟨he, S2, SLe.refl _ _, rs', hrs, ?_⟩
      by_cases hlen : S2.h.length ≤ h2.length
      · rw [if_pos hlen] at hh; exact .inl ⟨le, hh⟩
      · rw [if_neg hlen] at hh
        simp only [hlen, decide_false, Bool.false_or, Bool.and_eq_true, decide_eq_true_eq] at hq
        exact .inr ⟨noIterB hq.1.1, le, nrefB_ok hq.1.2, hq.2, hh⟩
    · cases h
  · cases h
theorem Fin.e {fn : Func} {d : DV} {e : Exit} (he : e = .normal ∨ e = .ret) (ks : List Nat) (hz : HL P Γ [] [] [] w) (h : (outZ P L ks fn d h2.length S).map (fun q => (q.1, tupD q.2.1, q.2.2)) = some (true, d, h2, w)) : Fin P fn L d h2 e S := by
  cases hq : outZ P L ks fn d h2.length S with
  | none => rw [hq] at h; cases h
  | some q =>
    obtain ⟨q1, rs, q3⟩ := q
    rw [hq] at h
    simp only [Option.map_some, Option.some.injEq, Prod.mk.injEq] at h
    obtain ⟨rfl, hd, rfl⟩ := h
    exact Fin.el he ks hz rs (DLe.of_eq hd) hq
/-- A round's end. -/
theorem TrK.r (hX : HX F P) {ex : List Exit} {i : Nat} {e : Exit} (sch : Sch) (n : Nat) (σ : List Nat) (tg : List (List (Nat × Nat) × St)) (hl : HL P Γ c o z v) (he : (Exit.normal :: ex)[i]? = some e)
    (h : (krun P Γ sch n k S ⟨c, o, z, tg⟩).map (outR σ L) = some (some e, h2, v, [], [], [], true)) : TrK P Γ F B L N (RndQ L ex i h2) k S := by
  cases hr : krun P Γ sch n k S ⟨c, o, z, tg⟩ with
  | none => rw [hr] at h; cases h
  | some r =>
    obtain ⟨r1, S1, v1, o1⟩ := r
    rw [hr] at h
    simp only [Option.map_some, outR, rOut, Option.some.injEq, Prod.mk.injEq] at h
    obtain ⟨hk, hh, rfl, _, _, _, hs⟩ := h
    have fin : stay N (RndQ L ex i h2) e S1 N := ⟨rfl, he, _, SLe.comp [] σ S1 hs, hh⟩
    refine krun_sound hX.f hX.m n k S _ _ _ _ _ hr hl.all ?_
    unfold koE at hk
    split at hk
    · cases hk; exact fin
    · cases hk; exact fin
    · rename_i i' k'
      split at hk
      · rename_i hp
        cases hk
        exact Tr.exit (exit_pass fin k' (Option.isNone_iff_eq_none.1 hp))
      · cases hk
    · cases hk
theorem TrA.g (hX : HX F P) {Q : Exit → St → Prop} {assign body : Code} (sch : Sch) (n : Nat) (live σ : List Nat) (hl : HL P Γ c o z v) (fr : List DV) (h' : DH)
    (h : (krun P Γ sch n [.code assign] S ⟨c, o, z, []⟩).map (outC live σ L) = some (.at [], fr, h', v, [], [], true)) (hk : ∀ N2 : Yard P Γ L, TrK P Γ F B L N2 Q [.code body] ⟨fr, h'⟩) : TrA P Γ F B L N Q assign body S :=
  TrA.go hX.f hX.m sch n _ live σ fr h' v h hl.all hk
end
section
variable {P : Program} {Γ : Glo} {L : Nat} {k : List KI} {S : St} {c : List (DV × DH × Bool)} {o : List (Nat × DV)} {z : List (Nat × Fz)} {v : List Prop}
theorem TrI.e {C : ItC P Γ} {Y : Yard P Γ L} (hX : HX Fence.wide P) (sch : Sch) (n : Nat) (hl : HL P Γ c o z v)
    (h : (krun P Γ sch n k S ⟨c, o, z, []⟩).map (fun r => ((match r.1 with | .ret => true | .at [] => true | _ => false), r.2.2.1)) = some (true, v)) (hY : Y = C.Y L C.encs.length ∨ Y = C.X L) : TrG P Γ Fence.wide none L Y (C.Q L) k S := by
  cases hr : krun P Γ sch n k S ⟨c, o, z, []⟩ with
  | none => rw [hr] at h; cases h
  | some r =>
    obtain ⟨r1, S1, vs1, o1⟩ := r
    rw [hr] at h
    simp only [Option.map_some, Option.some.injEq, Prod.mk.injEq] at h
    obtain ⟨h1, rfl⟩ := h
    refine krun_sound hX.f hX.m n k S _ _ _ _ _ hr hl.all ?_
    cases r1 with
    | ret => exact ⟨.inr rfl, hY⟩
    | «at» k1 => cases k1 with
      | nil => exact ⟨.inl rfl, hY⟩
      | cons _ _ => cases h1
theorem TrG.y {C : ItC P Γ} {i : Nat} {Q : QY P Γ L} {K : List KI} {ops : Array Oper} (hX : HX Fence.wide P) (p : Nat) (live σ : List Nat) (hl : HL P Γ c o z v) {x : Array Value} (frT : List DV) (hT : DH) (frF : List DV) (hE : DH)
    (hK : regHead K = some (ops, tailS K)) (hnd : noDefer ops = true) (h : (yrun P Γ ops p S ⟨c, o, z, []⟩).map (outY live σ L) = some (x.toList, C.l, frT, hT, frF, hE, v, true)) (hx : C.encs[i]? = some x) (hc : isCode (tailS K) = true) (hkT : TrG P Γ Fence.wide none L (C.Y L (i + 1)) Q (tailS K) ⟨frT, hT⟩) (hkF : TrG P Γ Fence.wide none L (C.X L) Q (tailS K) ⟨frF, hE⟩) : TrG P Γ Fence.wide none L (C.Y L i) Q K S :=
  TrG.yieldAt hX.f hK hnd p _ live σ frT hT frF hE v h hl.all hx hc hkT hkF
end
section
variable {P : Program} {Γ : Glo} {F : Fence} {B L : Nat} {Y : Yard P Γ L} {Q : QY P Γ L} {fr : List DV} {h : DH} {K : List KI} {a b : Code} {α σ : Type} {l : List α} {H : σ → DH} {FR : α → List DV}
/-- A range, where it stands. -/
theorem TrK.rg (hFw : F = Fence.wide ∨ ∃ l, F = Fence.wide.inRound l) (ex : List Exit) (hex : (ex.all fun e => (exC e).isSome) = true) (kk t : Nat) (ps : Array Tmp) (enc : α → Array Value) (L' : Nat) {f : α → σ → Option (σ × Nat)} {s0 : σ} {rE : σ × Nat} (hf : foldX f l s0 = some rE)
    (hround : ∀ (l B : Nat) (N : Yard P Γ L') (x : α) (s : σ) (r : σ × Nat), f x s = some r → TrA P Γ (Fence.wide.inRound l) (some B) L' N (RndQ L' ex r.2 (H r.1)) a b ⟨FR x, H s⟩)
    (hK : rgSplit K = some (.tmp t, ps, a, b, tailS K)) (hg : opd fr (.tmp t) = .it kk) (hk : h[kk]? = some (some (.iter (l.map enc)))) (hps : ∀ x, (enc x).size = ps.size) (hL : Nat.ble L L' = true) (hfb : fr.all (refB L') = true) (h0 : h.set kk none = H s0) (hfr : (fun x => setPs fr ps.toList (enc x).toList) = FR)
    (hdone : ∀ e, (Exit.normal :: ex)[rE.2]? = some e → TrE P Γ F (some B) L Q (tailS K) e ⟨fr, H rE.1⟩ Y) : TrG P Γ F (some B) L Y Q K ⟨fr, h⟩ :=
  TrK.rangeAt hFw ex hex (.tmp t) ps a b (tailS K) enc l H FR f hf hK hg hk hps L' hL hfb h0 hfr hround hdone
theorem TrK.rg0 (hFw : F = Fence.wide ∨ ∃ l, F = Fence.wide.inRound l) (kk t : Nat) (ps : Array Tmp) (enc : α → Array Value) (L' : Nat) {f : α → σ → Option σ} {s0 sE : σ} (hf : foldO f l s0 = some sE)
    (hround : ∀ (l B : Nat) (N : Yard P Γ L') (x : α) (s r : σ), f x s = some r → TrA P Γ (Fence.wide.inRound l) (some B) L' N (RndQ L' [] 0 (H r)) a b ⟨FR x, H s⟩)
    (hK : rgSplit K = some (.tmp t, ps, a, b, tailS K)) (hg : opd fr (.tmp t) = .it kk) (hk : h[kk]? = some (some (.iter (l.map enc)))) (hps : ∀ x, (enc x).size = ps.size) (hL : Nat.ble L L' = true) (hfb : fr.all (refB L') = true) (h0 : h.set kk none = H s0) (hfr : (fun x => setPs fr ps.toList (enc x).toList) = FR)
    (hdone : TrG P Γ F (some B) L Y Q (tailS K) ⟨fr, H sE⟩) : TrG P Γ F (some B) L Y Q K ⟨fr, h⟩ :=
  TrK.rangeAt0 hFw (.tmp t) ps a b (tailS K) enc l H FR f hf hK hg hk hps L' hL hfb h0 hfr hround hdone
end
end Go.Proofs.YtekkngkphejfcaaDoor
