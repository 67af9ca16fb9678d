/- Part 3 of 6 of what the proofs of these laws stand on. -/
import Derived.Test.YtekkngkphejfcaaDoorPkB
import Derived.LoopIn
set_option linter.all false
namespace Go.Proofs.YtekkngkphejfcaaDoor
open Go.RowKit
structure HX (F : Fence) (P : Program) : Prop where
  f : FOk F P
  m : P.follows .mixedOrders = true
/-- Hints, in the order of the steps: calls, coercions, rows read otherwise, what must hold. -/
structure HS (c : List (DV × DH × Bool)) (o : List (Nat × DV)) (z : List (Nat × Fz)) (v : List Prop) : Prop where
  all : allP v
section
variable {P : Program} {Γ : Glo} {cs : List (DV × DH × Bool)} {os : List (Nat × DV)} {zs : List (Nat × Fz)} {vs : List Prop}
theorem H0 : HS [] [] [] [] := ⟨trivial⟩
theorem HS.add (q : HS cs os zs vs) {c' : List (DV × DH × Bool)} {o' : List (Nat × DV)} {z' : List (Nat × Fz)} {p : Prop} (h : p) : HS c' o' z' (vs ++ [p]) := ⟨allP_append.2 ⟨q.all, h, trivial⟩⟩
theorem HS.o (q : HS cs os zs vs) (t : Nat) {d d' : DV} (x : DLe d d') : HS cs (os ++ [(t, d')]) zs (vs ++ [DLe d d']) := q.add x
theorem HS.b (q : HS cs os zs vs) (t : Nat) {a b : Bool} (x : a = b) : HS cs (os ++ [(t, .bool b)]) zs (vs ++ [DLe (.bool a) (.bool b)]) := q.add (DLe.bool x)
theorem HS.w (q : HS cs os zs vs) (t : Nat) {x : Int} (h : R64 x) : HS cs (os ++ [(t, .int .i64 x)]) zs (vs ++ [DLe (.int .i64 (IntKind.i64.wrap x)) (.int .i64 x)]) := q.add (wr64 h)
theorem HS.g (q : HS cs os zs vs) {p : Prop} (x : p) : HS cs os zs (vs ++ [p]) := q.add x
theorem HS.t (q : HS cs os zs vs) : HS cs os zs (vs ++ [True]) := q.add trivial
theorem HS.c (q : HS cs os zs vs) {f : Nat} {ds : List DV} {h : DH} {d : DV} {h' : DH} {e : Bool} (x : ES P Γ f ds h d h' e) : HS (cs ++ [(d, h', e)]) os zs (vs ++ [ES P Γ f ds h d h' e]) := q.add x
theorem HS.a (q : HS cs os zs vs) (t k m : Nat) {n n' : Nat} {f f' : Nat → Nat → DV} (x : n = n' ∧ ∀ i j, i < n → j < m → DLe (f i j) (f' i j)) : HS cs os (zs ++ [(t, .arr k n' f')]) (vs ++ [n = n' ∧ ∀ i j, i < n → j < m → DLe (f i j) (f' i j)]) := q.add x
theorem HS.z (q : HS cs os zs vs) (t k : Nat) : HS cs os (zs ++ [(t, .frz k)]) vs := ⟨q.all⟩
end
theorem ES.emC {P : Program} {Γ : Glo} {f : Nat} {ds : List DV} {h : DH} {d : DV} {h' : DH} {ext : Bool} (hES : ES P Γ f ds h d h' ext) (σ : List Nat) (H : DH) (hb : embB σ H.length h.length h'.length = true) (hh : (σ.map fun k => H.getD k none) = h.map (upO σ H.length)) : ES P Γ f (ds.map (up σ H.length)) H (up σ H.length d) (embH H σ h') ext :=
  hES.embedB σ H hb hh rfl
theorem oneR {α : Type} [Inhabited α] (c : α → List DV) (L : List α) (n m : Nat) (h : ∀ x, (c x).all oneC = true ∧ m = (c x).length) : ∀ i j, i < n → j < m → oneC (rowE c L i j) = true := fun i j _ hj => oneC_all (h _).1 (h _).2 j hj
/-- Rows become lists, one after the other. -/
def frzL : List Nat → St → Option (St × List Prop)
  | [], S => some (S, [])
  | k :: ks, S => match frzX k S with
    | some (S', vs) => match frzL ks S' with
      | some (S'', vs') => some (S'', vs ++ vs')
      | none => none
    | none => none
theorem SLe.frzL {L : Nat} : ∀ (ks : List Nat) {S S' : St} {vs : List Prop}, Proofs.YtekkngkphejfcaaDoor.frzL ks S = some (S', vs) → allP vs → SLe L S S'
  | [], S, S', vs, h, _ => by cases h; exact SLe.refl L S
  | k :: ks, S, S', vs, h, hv => by
    simp only [Proofs.YtekkngkphejfcaaDoor.frzL] at h
    split at h
    · rename_i S1 vs1 h1
      split at h
      · rename_i S2 vs2 h2
        cases h
        obtain ⟨hv1, hv2⟩ := allP_append.1 hv
        exact (SLe.frzE k S1 vs1 h1 hv1).trans (SLe.frzL ks h2 hv2)
      · cases h
    · cases h
abbrev ROut := List Prop × List Prop × List (DV × DH × Bool) × List (Nat × DV) × Bool
def rOut (σ : List Nat) (L : Nat) (w : List Prop) (r : KO × St × List Prop × Orc) : ROut := (r.2.2.1, w, r.2.2.2.calls, r.2.2.2.co, sigB σ L r.2.1.h.length)
def outF (live σ : List Nat) (L : Nat) (ks : List Nat) (r : KO × St × List Prop × Orc) : Option (KO × List DV × DH × ROut) := match frzL ks (comp live σ r.2.1) with
  | some (S, w) => some (r.1, S.fr, S.h, rOut σ L w r)
  | none => none
/-- How a run ended. -/
def koE : KO → Option Exit
  | .ret => some .ret
  | .at [] => some .normal
  | .at (.code (.exit i) :: k) => if (popTo i k).isNone then some (.exit i) else none
  | _ => none
def outE (P : Program) (live σ : List Nat) (L : Nat) (ks : List Nat) (fn : Func) (d : DV) (l2 : Nat) (r : KO × St × List Prop × Orc) : Option (Bool × List DV × DH × ROut) := match frzL ks (comp live σ r.2.1) with
  | some (S, w) => match resL P S fn.results.toList with
    | some rs => some ((match r.1 with | .ret => true | .at [] => true | _ => false) && (decide (S.h.length ≤ l2) || (S.h.all noIterD && nrefB d && decide (L ≤ S.h.length))), rs, (if S.h.length ≤ l2 then S.h else (compactX (List.range L) S).h), rOut σ L w r)
    | none => none
  | none => none
def outR (σ : List Nat) (L : Nat) (r : KO × St × List Prop × Orc) : Option Exit × DH × ROut := (koE r.1, (comp [] σ r.2.1).h, rOut σ L [] r)
section
variable {P : Program} {Γ : Glo} {F : Fence} {B : Option Nat} {L : Nat} {Y N : Yard P Γ L} {Q : QY P Γ L} {k k' : List KI} {S : St} {fr : List DV} {h' h2 : DH} {c : List (DV × DH × Bool)} {o : List (Nat × DV)} {z : List (Nat × Fz)} {v w : List Prop}
theorem outF_spec {live σ ks : List Nat} {r : KO × St × List Prop × Orc} {r1 : KO} (h : outF live σ L ks r = some (r1, fr, h', v, w, [], [], true)) (hw : allP w) : r.1 = r1 ∧ r.2.2.1 = v ∧ SLe L r.2.1 ⟨fr, h'⟩ := by
  unfold outF at h
  split at h
  · rename_i S1 w1 hf
    simp only [rOut, Option.some.injEq, Prod.mk.injEq] at h
    obtain ⟨rfl, rfl, rfl, rfl, rfl, _, _, hs⟩ := h
    exact ⟨rfl, rfl, (SLe.comp live σ r.2.1 hs).trans (SLe.frzL ks hf hw)⟩
  · cases h
/-- On, to a place that is known. -/
theorem TrK.gS (hX : HX F P) (sch : Sch) (n : Nat) (live σ : List Nat) (tg : List (List (Nat × Nat) × St)) (hl : HS c o z v) (ks : List Nat) (hz : HS [] [] [] w) (k' : List KI) (fr : List DV) (h' : DH)
    (h : (krun P Γ sch n k S ⟨c, o, z, tg⟩).bind (outF live σ L ks) = some (.at k', fr, h', v, w, [], [], true)) (hc : isCode k' = true) (hk : TrG P Γ F B L Y Q k' ⟨fr, h'⟩) : TrG P Γ F B L Y Q k S := by
  cases hr : krun P Γ sch n k S ⟨c, o, z, tg⟩ with
  | none => rw [hr] at h; cases h
  | some r =>
    obtain ⟨r1, S1, v1, o1⟩ := r
    rw [hr] at h
    obtain ⟨e1, e2, hs⟩ := outF_spec (r := (r1, S1, v1, o1)) h hz.all
    have e1 : r1 = .at k' := e1
    have e2 : v1 = v := e2
    subst e1 e2
    exact krun_sound hX.f hX.m n k S _ _ _ _ _ hr hl.all (TrK.le hs hc hk)
/-- A function's end; what it hands out is read otherwise. -/
theorem TrK.el (hX : HX F P) {fn : Func} {d : DV} (sch : Sch) (n : Nat) (live σ : List Nat) (tg : List (List (Nat × Nat) × St)) (hl : HS c o z v) (ks : List Nat) (hz : HS [] [] [] w) (rs : List DV) (le : DLe (tupD rs) d)
    (h : (krun P Γ sch n k S ⟨c, o, z, tg⟩).bind (outE P live σ L ks fn d h2.length) = some (true, rs, h2, v, w, [], [], true)) : TrK P Γ F B L N (Fin P fn L d h2) k S := by
  cases hr : krun P Γ sch n k S ⟨c, o, z, tg⟩ with
  | none => rw [hr] at h; cases h
  | some r =>
    obtain ⟨r1, S1, v1, o1⟩ := r
    rw [hr] at h
    have h : outE P live σ L ks fn d h2.length (r1, S1, v1, o1) = some (true, rs, h2, v, w, [], [], true) := h
    unfold outE at h
    split at h
    · rename_i S2 w1 hf
      split at h
      · rename_i rs' hrs
        simp only [rOut, Option.some.injEq, Prod.mk.injEq, Bool.and_eq_true] at h
        obtain ⟨⟨hret, hq⟩, rfl, hh, rfl, rfl, _, _, hs⟩ := h
        have hS : SLe L S1 S2 := (SLe.comp live σ S1 hs).trans (SLe.frzL ks hf hz.all)
        have fin : ∀ e, (e = .normal ∨ e = .ret) → Fin P fn L d h2 e S1 := fun e he => by
          refine Fin.le hS ⟨he, S2, SLe.refl _ _, rs', hrs, ?_⟩
          by_cases hlen : S2.h.length ≤ h2.length
          · rw [if_pos hlen] at hh; exact .inl ⟨le, hh⟩
          · rw [if_neg hlen] at hh
            simp only [hlen, decide_false, Bool.false_or, Bool.and_eq_true, decide_eq_true_eq] at hq
            exact .inr ⟨noIterB hq.1.1, le, nrefB_ok hq.1.2, hq.2, hh⟩
        refine krun_sound hX.f hX.m n k S _ _ _ _ _ hr hl.all ?_
        rcases r1 with (_ | ⟨_, _⟩) | _
        · exact ⟨rfl, fin _ (.inl rfl)⟩
        · cases hret
        · exact ⟨rfl, fin _ (.inr rfl)⟩
      · cases h
    · cases h
/-- A function's end. -/
theorem TrK.e (hX : HX F P) {fn : Func} {d : DV} (sch : Sch) (n : Nat) (live σ : List Nat) (tg : List (List (Nat × Nat) × St)) (hl : HS c o z v) (ks : List Nat) (hz : HS [] [] [] w)
    (h : (krun P Γ sch n k S ⟨c, o, z, tg⟩).bind (fun r => (outE P live σ L ks fn d h2.length r).map fun q => (q.1, tupD q.2.1, q.2.2)) = some (true, d, h2, v, w, [], [], true)) : TrK P Γ F B L N (Fin P fn L d h2) k S := by
  cases hr : krun P Γ sch n k S ⟨c, o, z, tg⟩ with
  | none => rw [hr] at h; cases h
  | some r =>
    rw [hr] at h
    have h : (outE P live σ L ks fn d h2.length r).map (fun q => (q.1, tupD q.2.1, q.2.2)) = some (true, d, h2, v, w, [], [], true) := h
    cases hq : outE P live σ L ks fn d h2.length r with
    | none => rw [hq] at h; cases h
    | some q =>
      obtain ⟨q1, rs, q3⟩ := q
      rw [hq] at h
      simp only [Option.map_some, Option.some.injEq, Prod.mk.injEq] at h
      obtain ⟨rfl, hd, rfl⟩ := h
      exact TrK.el hX sch n live σ tg hl ks hz rs (DLe.of_eq hd) (by rw [hr]; exact hq)
/-- A round's end. -/
theorem TrK.r (hX : HX F P) {ex : List Exit} {i : Nat} {e : Exit} (sch : Sch) (n : Nat) (σ : List Nat) (tg : List (List (Nat × Nat) × St)) (hl : HS c o z v) (he : (Exit.normal :: ex)[i]? = some e)
    (h : (krun P Γ sch n k S ⟨c, o, z, tg⟩).map (outR σ L) = some (some e, h2, v, [], [], [], true)) : TrK P Γ F B L N (RndQ L ex i h2) k S := by
  cases hr : krun P Γ sch n k S ⟨c, o, z, tg⟩ with
  | none => rw [hr] at h; cases h
  | some r =>
    obtain ⟨r1, S1, v1, o1⟩ := r
    rw [hr] at h
    simp only [Option.map_some, outR, rOut, Option.some.injEq, Prod.mk.injEq] at h
    obtain ⟨hk, hh, rfl, _, _, _, hs⟩ := h
    have fin : stay N (RndQ L ex i h2) e S1 N := ⟨rfl, he, _, SLe.comp [] σ S1 hs, hh⟩
    refine krun_sound hX.f hX.m n k S _ _ _ _ _ hr hl.all ?_
    unfold koE at hk
    split at hk
    · cases hk; exact fin
    · cases hk; exact fin
    · rename_i i' k'
      split at hk
      · rename_i hp
        cases hk
        exact Tr.exit (exit_pass fin k' (Option.isNone_iff_eq_none.1 hp))
      · cases hk
    · cases hk
theorem TrA.g (hX : HX F P) {Q : Exit → St → Prop} {assign body : Code} (sch : Sch) (n : Nat) (live σ : List Nat) (hl : HS c o z v) (fr : List DV) (h' : DH)
    (h : (krun P Γ sch n [.code assign] S ⟨c, o, z, []⟩).map (outC live σ L) = some (.at [], fr, h', v, [], [], true)) (hk : ∀ N2 : Yard P Γ L, TrK P Γ F B L N2 Q [.code body] ⟨fr, h'⟩) : TrA P Γ F B L N Q assign body S :=
  TrA.go hX.f hX.m sch n _ live σ fr h' v h hl.all hk
end
section
variable {P : Program} {Γ : Glo} {L : Nat} {k : List KI} {S : St} {c : List (DV × DH × Bool)} {o : List (Nat × DV)} {z : List (Nat × Fz)} {v : List Prop}
theorem TrI.e {C : ItC P Γ} {Y : Yard P Γ L} (hX : HX Fence.wide P) (sch : Sch) (n : Nat) (hl : HS c o z v)
    (h : (krun P Γ sch n k S ⟨c, o, z, []⟩).map (fun r => ((match r.1 with | .ret => true | .at [] => true | _ => false), r.2.2.1)) = some (true, v)) (hY : Y = C.Y L C.encs.length ∨ Y = C.X L) : TrG P Γ Fence.wide none L Y (C.Q L) k S := by
  cases hr : krun P Γ sch n k S ⟨c, o, z, []⟩ with
  | none => rw [hr] at h; cases h
  | some r =>
    obtain ⟨r1, S1, vs1, o1⟩ := r
    rw [hr] at h
    simp only [Option.map_some, Option.some.injEq, Prod.mk.injEq] at h
    obtain ⟨h1, rfl⟩ := h
    refine krun_sound hX.f hX.m n k S _ _ _ _ _ hr hl.all ?_
    rcases r1 with (_ | ⟨_, _⟩) | _
    · exact ⟨.inl rfl, hY⟩
    · cases h1
    · exact ⟨.inr rfl, hY⟩
theorem TrG.y {C : ItC P Γ} {i : Nat} {Q : QY P Γ L} {K : List KI} {ops : Array Oper} (hX : HX Fence.wide P) (p : Nat) (live σ : List Nat) (hl : HS c o z v) {x : Array Value} (frT : List DV) (hT : DH) (frF : List DV) (hE : DH)
    (hK : regHead K = some (ops, tailS K)) (hnd : noDefer ops = true) (h : (yrun P Γ ops p S ⟨c, o, z, []⟩).map (outY live σ L) = some (x.toList, C.l, frT, hT, frF, hE, v, true)) (hx : C.encs[i]? = some x) (hc : isCode (tailS K) = true) (hkT : TrG P Γ Fence.wide none L (C.Y L (i + 1)) Q (tailS K) ⟨frT, hT⟩) (hkF : TrG P Γ Fence.wide none L (C.X L) Q (tailS K) ⟨frF, hE⟩) : TrG P Γ Fence.wide none L (C.Y L i) Q K S :=
  TrG.yieldAt hX.f hK hnd p _ live σ frT hT frF hE v h hl.all hx hc hkT hkF
end
section
variable {P : Program} {Γ : Glo} {F : Fence} {B L : Nat} {Y : Yard P Γ L} {Q : QY P Γ L} {fr : List DV} {h : DH} {K : List KI} {a b : Code} {α σ : Type} {l : List α} {H : σ → DH} {FR : α → List DV}
/-- A range, where it stands. -/
theorem TrK.rg (hFw : F = Fence.wide ∨ ∃ l, F = Fence.wide.inRound l) (ex : List Exit) (hex : (ex.all fun e => (exC e).isSome) = true) (kk t : Nat) (ps : Array Tmp) (enc : α → Array Value) (L' : Nat) {f : α → σ → Option (σ × Nat)} {s0 : σ} {rE : σ × Nat} (hf : foldX f l s0 = some rE)
    (hround : ∀ (l B : Nat) (N : Yard P Γ L') (x : α) (s : σ) (r : σ × Nat), f x s = some r → TrA P Γ (Fence.wide.inRound l) (some B) L' N (RndQ L' ex r.2 (H r.1)) a b ⟨FR x, H s⟩)
    (hK : rgSplit K = some (.tmp t, ps, a, b, tailS K)) (hg : opd fr (.tmp t) = .it kk) (hk : h[kk]? = some (some (.iter (l.map enc)))) (hps : ∀ x, (enc x).size = ps.size) (hL : Nat.ble L L' = true) (hfb : fr.all (refB L') = true) (h0 : h.set kk none = H s0) (hfr : (fun x => setPs fr ps.toList (enc x).toList) = FR)
    (hdone : ∀ e, (Exit.normal :: ex)[rE.2]? = some e → TrE P Γ F (some B) L Q (tailS K) e ⟨fr, H rE.1⟩ Y) : TrG P Γ F (some B) L Y Q K ⟨fr, h⟩ :=
  TrK.rangeAt hFw ex hex (.tmp t) ps a b (tailS K) enc l H FR f hf hK hg hk hps L' hL hfb h0 hfr hround hdone
theorem TrK.rg0 (hFw : F = Fence.wide ∨ ∃ l, F = Fence.wide.inRound l) (kk t : Nat) (ps : Array Tmp) (enc : α → Array Value) (L' : Nat) {f : α → σ → Option σ} {s0 sE : σ} (hf : foldO f l s0 = some sE)
    (hround : ∀ (l B : Nat) (N : Yard P Γ L') (x : α) (s r : σ), f x s = some r → TrA P Γ (Fence.wide.inRound l) (some B) L' N (RndQ L' [] 0 (H r)) a b ⟨FR x, H s⟩)
    (hK : rgSplit K = some (.tmp t, ps, a, b, tailS K)) (hg : opd fr (.tmp t) = .it kk) (hk : h[kk]? = some (some (.iter (l.map enc)))) (hps : ∀ x, (enc x).size = ps.size) (hL : Nat.ble L L' = true) (hfb : fr.all (refB L') = true) (h0 : h.set kk none = H s0) (hfr : (fun x => setPs fr ps.toList (enc x).toList) = FR)
    (hdone : TrG P Γ F (some B) L Y Q (tailS K) ⟨fr, H sE⟩) : TrG P Γ F (some B) L Y Q K ⟨fr, h⟩ :=
  TrK.rangeAt0 hFw (.tmp t) ps a b (tailS K) enc l H FR f hf hK hg hk hps L' hL hfb h0 hfr hround hdone
end
end Go.Proofs.YtekkngkphejfcaaDoor
namespace Go.Proofs.YtekkngkphejfcaaDoor
open Go.RowKit
/-- A map's block, its entries, its clock. -/
abbrev LK := Nat × Array MapEntry × Nat
theorem lkOff_none {i : Nat} : lkOff none i := fun _ h => by cases h
theorem lkOff_some {i j : Nat} {g : LK} (h : i ≠ j) : lkOff (some (i, g)) j := fun y e => by cases e; exact h
/-- Whichever comes next: the same is to come of it. -/
def onNext {R : Type} [DecidableEq R] (rem : KS) (a : Option R) (f : List Int → Option R) : Option R := match rem with
  | [] => a
  | x :: r => match f x with
    | none => none
    | some v => if r.all (fun y => decide (f y = some v)) then some v else none
theorem onNext_spec {R : Type} [DecidableEq R] {rem : KS} {a : Option R} {f : List Int → Option R} {r : R} (h : onNext rem a f = some r) : (rem = [] → a = some r) ∧ ∀ y ∈ rem, f y = some r := by
  cases rem with
  | nil => exact ⟨fun _ => h, fun y hy => absurd hy List.not_mem_nil⟩
  | cons x l =>
    refine ⟨fun e => absurd e (List.cons_ne_nil x l), ?_⟩
    unfold onNext at h
    simp only at h
    cases hx : f x with
    | none => rw [hx] at h; cases h
    | some v =>
      rw [hx] at h
      simp only at h
      split at h
      · rename_i hc
        cases h
        intro y hy
        rcases List.mem_cons.1 hy with rfl | hy
        · exact hx
        · exact of_decide_eq_true (List.all_eq_true.1 hc y hy)
      · cases h
theorem onNext_nil {R : Type} [DecidableEq R] {a : Option R} {f : List Int → Option R} : onNext [] a f = a := rfl
theorem onNext_of {R : Type} [DecidableEq R] {rem : KS} {a : Option R} {f : List Int → Option R} {r : R} (hn : rem ≠ []) (h : ∀ y ∈ rem, f y = some r) : onNext rem a f = some r := by
  cases rem with
  | nil => exact absurd rfl hn
  | cons x l =>
    unfold onNext
    simp only [h x (by simp)]
    rw [if_pos]
    exact List.all_eq_true.2 fun y hy => decide_eq_true (h y (by simp [hy]))
theorem run_next_at {P : Program} {w : World} {r bm since c0 clock : Nat} {seen : Array Nat} {es : Array MapEntry} (hr : w.heap[r]? = some (.mapIter (some bm) since seen c0)) (hb : w.heap[bm]? = some (.map es clock)) (hold : ∀ x ∈ es.toList, x.born < since) (hsc : since ≤ c0) (ty : TypeId) :
    ((leftOf es seen).size = 0 ∧ (Instr.next (.pointer (some ⟨r, 0, none⟩)) false ty).run P w = .ok (.tuple #[.bool false]) w) ∨
    ∃ e ∈ (leftOf es seen).toList, ∃ w1 : World, (w1 = w ∨ w1 = w.drew) ∧ (Instr.next (.pointer (some ⟨r, 0, none⟩)) false ty).run P w = .ok (.tuple #[.bool true, e.key, e.val]) { w1 with heap := w1.heap.setIfInBounds r (.mapIter (some bm) since (seen.push e.born) clock) } := by
  simp only [Instr.next, getObj, Sem.run_bind, Sem.run, hr, hb, Result.andThen, next_test_false seen es since c0 hold hsc, Bool.false_eq_true, if_false]
  unfold leftOf
  have hmem : ∀ x ∈ (Array.filter (fun e => !seen.contains e.born) es).toList, x.born < since := fun x hx => hold x (by simp at hx ⊢; exact hx.1)
  generalize Array.filter (fun e => !seen.contains e.born) es = L at hmem ⊢
  have e1 : L.filter (fun x => decide (x.born < since)) = L := Array.filter_eq_self.2 (fun x hx => by simpa using hmem x (by simpa using hx))
  have e2 : L.filter (fun x => decide (x.born ≥ since)) = #[] := by
    rw [Array.filter_eq_empty_iff]
    intro x hx
    have := hmem x (by simpa using hx)
    simp
    omega
  simp only [e1, e2, Array.append_empty]
  by_cases h0 : L.size = 0
  · left
    have : L = #[] := Array.eq_empty_of_size_eq_zero h0
    subst this
    refine ⟨rfl, ?_⟩
    simp [choose, Sem.run, Question.forced]
  · right
    have hne : L.isEmpty = false := by simp [Array.isEmpty, h0]
    simp only [hne, Bool.false_eq_true, if_false, Array.empty_append, Array.size_map]
    have hch : ∃ (j : Nat) (w1 : World), j < L.size ∧ (w1 = w ∨ w1 = w.drew) ∧ (choose (Question.mapNext L.size)).run P w = .ok j w1 := by
      by_cases hf : L.size ≤ 1
      · exact ⟨0, w, by omega, .inl rfl, by simp [choose, Sem.run, Question.forced, hf]⟩
      · exact ⟨_, w.drew, Nat.mod_lt _ (by omega), .inr rfl, by
          simp only [choose, Sem.run, Question.forced, decide_eq_true_eq, hf, if_false, Question.cut]
          rfl⟩
    obtain ⟨j, w1, hj, hal, hrun⟩ := hch
    have hr1 : w1.heap[r]? = some (.mapIter (some bm) since seen c0) := by rcases hal with rfl | rfl <;> exact hr
    refine ⟨L[j], by simp, w1, hal, ?_⟩
    simp only [hrun, Array.getElem?_map, Array.getElem?_eq_getElem hj, Option.map_some, Sem.run_bind, setObj, Sem.run, hr1, Result.andThen]
    rfl
section
variable {P : Program} {Γ : Glo} {N : Nat → Prop} {S : St} {ρ : List Place} {a : Act} {w : World} {F : Fence} {B : Option Nat} {L : Nat} {Y : Yard P Γ L} {Q : QY P Γ L}
/-- An object of maps is read otherwise. -/
theorem Rel.setMo (R : Rel P Γ N S ρ a w) {k : Nat} {x x' : MX} {p : Place} (hk : S.h[k]? = some (some (.mo x))) (hp : ρ[k]? = some p) (hO : MXRep w p x') (hc : ∀ b, p.foot b → Lies w b) :
    Rel P Γ N ⟨S.fr, S.h.set k (some (.mo x'))⟩ ρ a w ∧ Step S.h ρ w (S.h.set k (some (.mo x'))) ρ w :=
  ⟨⟨R.hr.write hk hp (Upd.refl _ _) hc hO, R.fr.out (Outl.write trivial hk hp (Upd.refl p.foot w))⟩, Step.write hk hp (Upd.refl _ _)⟩
theorem SetsAt.relock {p : Place} {n : Nat} {ls : List (Option KS)} {vs : Array Value} (hS : SetsAt w p n ls none vs) {i : Nat} (hi : (ls.getD i none).isSome = true) : ∃ g : LK, SetsAt w p n ls (some (i, g)) vs := by
  obtain ⟨mb, g1, g2, g3, es, clock, g4, _⟩ := hS.has i _ (getD_isSome hi)
  refine ⟨(mb, es, clock), { hS with has := fun j l hl => ?_ }⟩
  by_cases e : j = i
  · subst e
    have : l = (ls.getD j none).getD [] := by have := getD_isSome hi; rw [hl] at this; exact Option.some.inj (Option.some.inj this)
    subst this
    exact ⟨mb, g1, g2, g3, es, clock, g4, fun x hx _ => by cases hx; rfl⟩
  · obtain ⟨b, k1, k2, k3, es1, c1, k4, _⟩ := hS.has j l hl
    exact ⟨b, k1, k2, k3, es1, c1, k4, fun x hx hj => by cases hx; exact absurd hj.symm e⟩
theorem SetsAt.unlock {p : Place} {n : Nat} {ls : List (Option KS)} {lk : Option (Nat × LK)} {vs : Array Value} (hS : SetsAt w p n ls lk vs) : SetsAt w p n ls none vs :=
  { hS with has := fun j l hl => let ⟨b, k1, k2, k3, es1, c1, k4, _⟩ := hS.has j l hl; ⟨b, k1, k2, k3, es1, c1, k4, fun x hx => by cases hx⟩ }
/-- An element of a row of maps is held fast. -/
theorem Tr.lock {c : Code} {j i n : Nat} {ls : List (Option KS)} (hk : S.h[j]? = some (some (.mo (.sets n ls none)))) (hi : (ls.getD i none).isSome = true) (H : ∀ g : LK, Tr P Γ F B L Y c ⟨S.fr, S.h.set j (some (.mo (.sets n ls (some (i, g)))))⟩ Q) : Tr P Γ F B L Y c S Q := fun N ρ a w R y m b => by
  obtain ⟨p, hp, vs, hS⟩ := R.hr.obj j _ hk
  obtain ⟨g, hS'⟩ := hS.relock hi
  obtain ⟨R', st⟩ := R.setMo hk hp (x' := .sets n ls (some (i, g))) ⟨vs, hS'⟩ fun b hb => hS.lies hb
  exact H g N ρ a w R' (Y.st y R.hr R'.hr st (Kept.refl _ _)) m b
def isC : List KI → Bool
  | .code _ :: _ => true
  | _ => false
theorem TrK.lock {K : List KI} {fr : List DV} {h : DH} (j i n : Nat) {ls : List (Option KS)} (hk : h[j]? = some (some (.mo (.sets n ls none)))) (hi : (ls.getD i none).isSome = true) (hK : isC K = true) (h' : LK → DH) (he : h' = fun g => h.set j (some (.mo (.sets n ls (some (i, g)))))) (H : ∀ g : LK, TrG P Γ F B L Y Q K ⟨fr, h' g⟩) : TrG P Γ F B L Y Q K ⟨fr, h⟩ := by
  subst he
  unfold isC at hK
  split at hK
  · exact Tr.lock (S := ⟨fr, h⟩) hk hi H
  · cases hK
/-- What comes next. -/
theorem next_view (R : Rel P Γ N S ρ a w) {m j n n' i : Nat} {ls : List (Option KS)} {g : LK} {rem : KS} {cur : Option (List Int)} (hm : S.h[m]? = some (some (.mo (.mit n g.1 g.2.1 g.2.2 rem cur)))) (hj : S.h[j]? = some (some (.mo (.sets n' ls (some (i, g)))))) (hi : (ls.getD i none).isSome = true) {v : Value} (hv : RepV (MS N S.h ρ) w (.it m) ρ v) (ty : TypeId) :
    (rem = [] ∧ (Instr.next v false ty).run P w = .ok (.tuple #[.bool false]) w) ∨ ∃ y ∈ rem, ∃ (k u : Value) (w' : World) (p : Place), (Instr.next v false ty).run P w = .ok (.tuple #[.bool true, k, u]) w' ∧ ρ[m]? = some p ∧ Upd p.foot w w' ∧ MXRep w' p (.mit n g.1 g.2.1 g.2.2 (rem.erase y) (some y)) ∧ ∀ b, p.foot b → Lies w' b := by
  obtain ⟨p, hp, rfl⟩ := hv
  obtain ⟨p', hp', h0, h1, h2, seen, h3, h4, h5⟩ := R.hr.obj m _ hm
  have : p' = p := Option.some.inj (hp'.symm.trans hp)
  subst this
  obtain ⟨q, hq, vs, hS⟩ := R.hr.obj j _ hj
  obtain ⟨b, k1, k2, k3, es1, clock1, k4, k5⟩ := hS.has i _ (getD_isSome hi)
  have k5 := k5 _ rfl rfl
  obtain ⟨mb, es, clock⟩ := g
  have e3 : mb = b ∧ es = es1 ∧ clock = clock1 := by
    have : (mb, es, clock) = (b, es1, clock1) := k5
    simpa using this
  obtain ⟨rfl, rfl, rfl⟩ := e3
  simp only at h3 h4 h5
  rw [h1]
  have hold : ∀ x ∈ es.toList, x.born < clock := k4.born
  rcases run_next_at (P := P) h3 k4.blk hold (Nat.le_refl _) ty with ⟨e1, e2⟩ | ⟨e, he, w1, hw1, e2⟩
  · refine .inl ⟨?_, e2⟩
    have : (leftOf es seen) = #[] := Array.eq_empty_of_size_eq_zero e1
    rw [this] at h4
    have := h4.length_eq
    simp at this
    exact List.eq_nil_of_length_eq_zero this.symm
  · have hek : e.key ∈ rem.map keyV := h4.mem_iff.1 (List.mem_map.2 ⟨e, he, rfl⟩)
    obtain ⟨y, hy, hye⟩ := List.mem_map.1 hek
    have hes : e ∈ es.toList := by simp [leftOf] at he ⊢; exact he.1
    have hrlt : p'.blk < w.heap.size := (Array.getElem?_eq_some_iff.1 h3).1
    have hw1h : w1.heap = w.heap := by rcases hw1 with rfl | rfl <;> rfl
    have hU : Upd p'.foot w { w1 with heap := w1.heap.setIfInBounds p'.blk (.mapIter (some mb) clock (seen.push e.born) clock) } := by
      rw [h2]
      have u1 : Upd (fun k => k = p'.blk) w w1 := by
        rcases hw1 with rfl | rfl
        · exact Upd.refl _ _
        · exact Upd.ofExt (Ext.toDrew w)
      exact u1.trans (upd_setObj _)
    have hnew : ({ w1 with heap := w1.heap.setIfInBounds p'.blk (.mapIter (some mb) clock (seen.push e.born) clock) } : World).heap[p'.blk]? = some (.mapIter (some mb) clock (seen.push e.born) clock) := by
      show (w1.heap.setIfInBounds _ _)[_]? = _
      simp [hw1h, hrlt]
    refine .inr ⟨y, hy, e.key, e.val, _, p', e2, hp, hU, ⟨fun x hx => ?_, h1, h2, seen.push e.born, hnew, ?_, fun x hx => ?_⟩, fun b hb => ?_⟩
    · rcases hx with hx | hx
      · exact h0 x (.inl (List.mem_of_mem_erase hx))
      · have ex : y = x := Option.some.inj hx
        subst ex
        exact h0 y (.inl hy)
    · have hl : leftOf es (seen.push e.born) = (leftOf es seen).filter fun x => x.born != e.born := by
        unfold leftOf
        rw [Array.filter_filter]
        congr 1
        funext x
        simp only [Array.contains_push, Bool.not_or]
        rw [Bool.and_comm]
        simp [bne, Bool.beq_comm]
      have hnd : ((leftOf es seen).toList.map (·.born)).Nodup := by
        have : ((leftOf es seen).toList.map (·.born)).Sublist (es.toList.map (·.born)) := by
          unfold leftOf
          rw [Array.toList_filter]
          exact List.filter_sublist.map _
        exact this.nodup k4.stamps
      have hfil : ∀ (l : List MapEntry), (l.map (·.born)).Nodup → e ∈ l → (l.map (·.key)).Perm (e.key :: ((l.filter fun x => x.born != e.born).map (·.key))) := by
        intro l
        induction l with
        | nil => intro _ h; cases h
        | cons x l ih =>
          intro hn hx
          rw [List.map_cons, List.nodup_cons] at hn
          by_cases hxe : x = e
          · subst hxe
            have : (l.filter fun y => y.born != x.born) = l := List.filter_eq_self.2 fun y hy => by
              simp only [bne_iff_ne, ne_eq]
              exact fun hc => hn.1 (by rw [← hc]; exact List.mem_map.2 ⟨y, hy, rfl⟩)
            simp [this]
          · have hel : e ∈ l := (List.mem_cons.1 hx).resolve_left fun h => hxe h.symm
            have hne : (x.born != e.born) = true := by
              simp only [bne_iff_ne, ne_eq]
              exact fun hc => hn.1 (by rw [hc]; exact List.mem_map.2 ⟨e, hel, rfl⟩)
            rw [List.filter_cons, if_pos hne, List.map_cons, List.map_cons]
            exact ((ih hn.2 hel).cons x.key).trans (List.Perm.swap e.key x.key _)
      have P1 := hfil _ hnd he
      rw [hl, Array.toList_filter]
      have P2 : (rem.map keyV).Perm (keyV y :: (rem.erase y).map keyV) := (List.perm_cons_erase hy).map keyV
      have P3 := P1.symm.trans (h4.trans P2)
      rw [← hye] at P3
      exact List.Perm.cons_inv P3
    · have ex : y = x := Option.some.inj hx
      subst ex
      exact ⟨e, hes, hye.symm, by simp⟩
    · rw [h2] at hb
      exact ⟨_, rfl, (), by rw [show b = p'.blk from hb]; exact hnew⟩
/-- A region that opens with the step of a loop over a map: what follows upon its end, and upon each that may come. -/
theorem Tr.next (hF : FOk F P) {id : Nat} {ops : Array Oper} (hnd : noDefer ops = true) {o : Oper} {rest : List Oper} (hops : ops.toList = o :: rest) {x : Operand} (ho : o.op = .next x false) (hw : wantedD ops S o = some true) {m j n n' i : Nat} {ls : List (Option KS)} {g : LK} {rem : KS} {cur : Option (List Int)} (hx : opd S.fr x = .it m) (hm : S.h[m]? = some (some (.mo (.mit n g.1 g.2.1 g.2.2 rem cur)))) (hj : S.h[j]? = some (some (.mo (.sets n' ls (some (i, g)))))) (hmj : m ≠ j) (hi : (ls.getD i none).isSome = true)
    (h0 : rem = [] → ∃ S' vs o0 o', gseq P Γ ops rest ⟨setD S.fr o.dst (.tup 1 (L1 [.bool false])), (S.h.set j (some (.mo (.sets n' ls none)))).set m none⟩ o0 = some (S', vs, o') ∧ allP vs ∧ Q .normal S' Y)
    (h1 : ∀ y ∈ rem, ∃ S' vs o0 o', gseq P Γ ops rest ⟨setD S.fr o.dst (.tup 3 (L1 [.bool true])), S.h.set m (some (.mo (.mit n g.1 g.2.1 g.2.2 (rem.erase y) (some y))))⟩ o0 = some (S', vs, o') ∧ allP vs ∧ Q .normal S' Y) : Tr P Γ F B L Y (.region id ops false) S Q := fun N ρ a w R y mk b => by
  refine wpIn_region_list ?_
  rw [hops]
  have hd : ∀ c, o.op ≠ .defer c := fun c e => by rw [ho] at e; cases e
  have hl' : ∀ o' ∈ rest, o' ∈ ops := fun o' ho' => by
    have : o' ∈ ops.toList := by rw [hops]; exact List.mem_cons_of_mem _ ho'
    simpa using this
  have hdef : ∀ v, (a.put o.dst v).defers = a.defers := fun v => by cases ho : o.dst <;> simp [Act.put]
  have rx := opd_rep R x
  rw [hx] at rx
  unfold wpListIn
  rw [if_pos (wantedD_sound R hw)]
  have hex : execOp a.eval o = (do pure (.value (← Instr.next (a.eval x) false o.type))) := by unfold execOp; rw [ho]
  have hlt : m < S.h.length := (List.getElem?_eq_some_iff.1 hm).1
  rcases next_view R hm hj hi rx o.type with ⟨e1, e2⟩ | ⟨ky, hky, k, u, w', p, e2, hp, hU, hO, hC⟩
  · obtain ⟨S', vs, o0, o', g1, g2, g3⟩ := h0 e1
    obtain ⟨q, hq, vsj, hS⟩ := R.hr.obj j _ hj
    obtain ⟨R1, st1⟩ := R.setMo hj hq (x' := .sets n' ls none) ⟨vsj, hS.unlock⟩ fun b hb => hS.lies hb
    have R2 : Rel P Γ N ⟨S.fr, (S.h.set j (some (.mo (.sets n' ls none)))).set m none⟩ ρ a w := ⟨R1.hr.kill m, R1.fr.out (Outl.kill m)⟩
    have R3 := setD_rel R2 o.dst (d := .tup 1 (L1 [.bool false])) (v := .tuple #[.bool false]) ⟨#[.bool false], rfl, rfl, fun jj hjj => by
      have : jj = 0 := by omega
      subst this; exact ⟨_, rfl, rfl⟩⟩
    refine does_wpIn hF hd (G := fun v w2 => v = .tuple #[.bool false] ∧ w2 = w) (Does.value (s := Instr.next (a.eval x) false o.type) hex e2 ⟨rfl, rfl⟩) fun v w2 ⟨hv, hw2⟩ => ?_
    subst hv hw2
    refine gseq_sound hF hnd rest hl' R3 g1 g2 fun ρ' a' w3 R' st hdf => ?_
    exact Tr.done R y mk b g3 R' ((st1.trans (Step.kill m)).trans st.st) (fun k p _ hp => st.pl k p hp) (hdf.trans (hdef _))
  · obtain ⟨S', vs, o0, o', g1, g2, g3⟩ := h1 ky hky
    have st1 := Step.write (h := S.h) (o' := .mo (.mit n g.1 g.2.1 g.2.2 (rem.erase ky) (some ky))) hm hp hU
    have R1 : Rel P Γ N ⟨S.fr, S.h.set m (some (.mo (.mit n g.1 g.2.1 g.2.2 (rem.erase ky) (some ky))))⟩ ρ a w' := ⟨R.hr.write hm hp hU hC hO, R.fr.out (Outl.write trivial hm hp hU)⟩
    have R3 := setD_rel R1 o.dst (d := .tup 3 (L1 [.bool true])) (v := .tuple #[.bool true, k, u]) ⟨#[.bool true, k, u], rfl, rfl, fun jj hjj => by
      match jj, hjj with
      | 0, _ => exact ⟨_, rfl, rfl⟩
      | 1, _ => exact ⟨_, rfl, trivial⟩
      | 2, _ => exact ⟨_, rfl, trivial⟩⟩
    refine does_wpIn hF hd (G := fun v w2 => v = .tuple #[.bool true, k, u] ∧ w2 = w') (Does.value (s := Instr.next (a.eval x) false o.type) hex e2 ⟨rfl, rfl⟩) fun v w2 ⟨hv, hw2⟩ => ?_
    subst hv hw2
    refine gseq_sound hF hnd rest hl' R3 g1 g2 fun ρ' a' w3 R' st hdf => ?_
    exact Tr.done R y mk b g3 R' (st1.trans st.st) (fun k p _ hp => st.pl k p hp) (hdf.trans (hdef _))
/-- The parts of such a region. -/
def nxX (ops : Array Oper) : Operand := match ops.toList with
  | o :: _ => match o.op with
    | .next x _ => x
    | _ => .tmp 0
  | [] => .tmp 0
def nxD (ops : Array Oper) : Option Tmp := match ops.toList with
  | o :: _ => o.dst
  | [] => none
def nxR (ops : Array Oper) : List Oper := ops.toList.tail
def nxOk (ops : Array Oper) : Bool := match ops.toList with
  | o :: _ => match o.op with
    | .next _ false => o.guard.isNone && noDefer ops
    | _ => false
  | [] => false
theorem nxOk_spec {ops : Array Oper} (h : nxOk ops = true) : noDefer ops = true ∧ ∃ o, ops.toList = o :: nxR ops ∧ o.op = .next (nxX ops) false ∧ o.guard = none ∧ o.dst = nxD ops := by
  unfold nxOk at h
  unfold nxX nxD nxR
  split at h
  · rename_i o rest hops
    rw [hops]
    split at h
    · rename_i x ho
      simp only [Bool.and_eq_true, Option.isNone_iff_eq_none] at h
      refine ⟨h.2, o, rfl, ?_, h.1, rfl⟩
      simp only [ho]
    · cases h
  · cases h
def outG (live σ : List Nat) (L : Nat) (r : St × List Prop × Orc) : List DV × DH × List Prop × Bool := ((comp live σ r.1).fr, (comp live σ r.1).h, r.2.1, sigB σ L r.1.h.length)
/-- A step of a loop over a map, where it stands. -/
theorem TrG.nx (hX : HX F P) {K : List KI} {ops : Array Oper} {fr : List DV} {h : DH} (hK : regHead K = some (ops, tailS K)) (hok : nxOk ops = true) (m j i n : Nat) (ls : List (Option KS)) (g : LK) (rem : KS) (cur : Option (List Int)) (live σ : List Nat) (fr0 : List DV) (h0 : DH) (σ1 : List Nat) (fr1 : List Int → List DV) (h1 : List Int → DH)
    (hx : opd fr (nxX ops) = .it m) (hm : h[m]? = some (some (.mo (.mit n g.1 g.2.1 g.2.2 rem cur)))) (hj : h[j]? = some (some (.mo (.sets n ls (some (i, g)))))) (hmj : m ≠ j) (hi : (ls.getD i none).isSome = true) (hc : isCode (tailS K) = true)
    (c0 : (gseq P Γ ops (nxR ops) ⟨setD fr (nxD ops) (.tup 1 (L1 [.bool false])), (h.set j (some (.mo (.sets n ls none)))).set m none⟩ ⟨[], [], [], []⟩).map (outG live σ L) = some (fr0, h0, [], true))
    (c1 : ∀ y, (gseq P Γ ops (nxR ops) ⟨setD fr (nxD ops) (.tup 3 (L1 [.bool true])), h.set m (some (.mo (.mit n g.1 g.2.1 g.2.2 (rem.erase y) (some y))))⟩ ⟨[], [], [], []⟩).map (outG live σ1 L) = some (fr1 y, h1 y, [], true))
    (k0 : rem = [] → TrG P Γ F B L Y Q (tailS K) ⟨fr0, h0⟩) (k1 : ∀ y ∈ rem, TrG P Γ F B L Y Q (tailS K) ⟨fr1 y, h1 y⟩) : TrG P Γ F B L Y Q K ⟨fr, h⟩ := by
  have go : ∀ {S : St} {live σ : List Nat} {fr' : List DV} {h' : DH}, (gseq P Γ ops (nxR ops) S ⟨[], [], [], []⟩).map (outG live σ L) = some (fr', h', [], true) → TrG P Γ F B L Y Q (tailS K) ⟨fr', h'⟩ → ∃ S' vs o0 o', gseq P Γ ops (nxR ops) S o0 = some (S', vs, o') ∧ allP vs ∧ TrG P Γ F B L Y Q (tailS K) S' := by
    intro S live σ fr' h' hc0 hk
    cases hr : gseq P Γ ops (nxR ops) S ⟨[], [], [], []⟩ with
    | none => rw [hr] at hc0; cases hc0
    | some r =>
      obtain ⟨S1, v1, o1⟩ := r
      rw [hr] at hc0
      simp only [Option.map_some, outG, Option.some.injEq, Prod.mk.injEq] at hc0
      obtain ⟨rfl, rfl, rfl, hs⟩ := hc0
      exact ⟨S1, _, _, _, hr, trivial, TrK.le (SLe.comp live σ S1 hs) hc hk⟩
  unfold regHead at hK
  split at hK
  · rename_i id ops' k'
    have e := Option.some.inj hK
    simp only [tailS, Prod.mk.injEq, and_true] at e
    subst e
    obtain ⟨hnd, o, q1, q2, q3, q4⟩ := nxOk_spec hok
    exact Tr.next (S := ⟨fr, h⟩) hX.f hnd q1 q2 (by unfold wantedD; rw [q3]) hx hm hj hmj hi (fun e => by rw [q4]; exact go c0 (k0 e)) (fun y hy => by rw [q4]; exact go (c1 y) (k1 y hy))
  · cases hK
end
end Go.Proofs.YtekkngkphejfcaaDoor
namespace Go.Proofs.YtekkngkphejfcaaDoor
open Go.RowKit
/-- With enough fuel, something is answered for which Q holds. -/
def PEv {R : Type} (f : Nat → Option R) (Q : R → Prop) : Prop := ∃ N, ∀ n, N ≤ n → ∃ r, f n = some r ∧ Q r
/-- With enough fuel, r is answered. -/
def Ev {R : Type} (f : Nat → Option R) (r : R) : Prop := ∃ N, ∀ n, N ≤ n → f n = some r
section
variable {R T : Type} {f g : Nat → Option R} {Q Q' : R → Prop} {r : R}
theorem Ev.p (h : Ev f r) (hq : Q r) : PEv f Q := let ⟨N, h⟩ := h; ⟨N, fun n hn => ⟨r, h n hn, hq⟩⟩
theorem PEv.ev (h : PEv f Q) (hu : ∀ r r', Q r → Q r' → r = r') : ∃ r, Q r ∧ Ev f r := by
  obtain ⟨N, h⟩ := h
  obtain ⟨r, h1, h2⟩ := h N (Nat.le_refl _)
  refine ⟨r, h2, N, fun n hn => ?_⟩
  obtain ⟨r', h3, h4⟩ := h n hn
  rw [h3, hu _ _ h4 h2]
theorem PEv.mono (h : PEv f Q) (hq : ∀ r, Q r → Q' r) : PEv f Q' := let ⟨N, h⟩ := h; ⟨N, fun n hn => let ⟨r, h1, h2⟩ := h n hn; ⟨r, h1, hq r h2⟩⟩
theorem PEv.step (k : Nat) (h : ∀ n, f (n + k) = g n) (hg : PEv g Q) : PEv f Q := by
  obtain ⟨N, hg⟩ := hg
  refine ⟨N + k, fun n hn => ?_⟩
  have := hg (n - k) (by omega)
  rw [← h, show n - k + k = n by omega] at this
  exact this
theorem Ev.step (k : Nat) (h : ∀ n, f (n + k) = g n) (hg : Ev g r) : Ev f r := by
  obtain ⟨N, hg⟩ := hg
  refine ⟨N + k, fun n hn => ?_⟩
  have := hg (n - k) (by omega)
  rwa [← h, show n - k + k = n by omega] at this
theorem Ev.now (h : ∀ n, f n = some r) : Ev f r := ⟨0, fun n _ => h n⟩
theorem Ev.eq {f g : Nat → Option R} (h : Ev g r) (e : ∀ n, f n = g n) : Ev f r := let ⟨N, h⟩ := h; ⟨N, fun n hn => (e n).trans (h n hn)⟩
theorem PEv.eq {f g : Nat → Option R} (h : PEv g Q) (e : ∀ n, f n = g n) : PEv f Q := let ⟨N, h⟩ := h; ⟨N, fun n hn => by rw [e]; exact h n hn⟩
theorem Ev.bind {a : Nat → Option T} {x : T} {b : Nat → T → Option R} (ha : Ev a x) (hb : Ev (fun n => b n x) r) : Ev (fun n => (a n).bind (b n)) r := by
  obtain ⟨N, ha⟩ := ha
  obtain ⟨M, hb⟩ := hb
  refine ⟨max N M, fun n hn => ?_⟩
  show (a n).bind (b n) = _
  rw [ha n (by omega), Option.bind_some]
  exact hb n (by omega)
theorem PEv.bind {a : Nat → Option T} {x : T} {b : Nat → T → Option R} (ha : Ev a x) (hb : PEv (fun n => b n x) Q) : PEv (fun n => (a n).bind (b n)) Q := by
  obtain ⟨N, ha⟩ := ha
  obtain ⟨M, hb⟩ := hb
  refine ⟨max N M, fun n hn => ?_⟩
  show ∃ r, (a n).bind (b n) = some r ∧ _
  rw [ha n (by omega), Option.bind_some]
  exact hb n (by omega)
theorem PEv.all {l : List T} {F : T → Nat → Option R} (h : ∀ y ∈ l, PEv (F y) Q) : ∃ N, ∀ n, N ≤ n → ∀ y ∈ l, ∃ r, F y n = some r ∧ Q r := by
  induction l with
  | nil => exact ⟨0, fun n _ y hy => absurd hy List.not_mem_nil⟩
  | cons x l ih =>
    obtain ⟨N, hN⟩ := ih fun y hy => h y (List.mem_cons_of_mem _ hy)
    obtain ⟨M, hM⟩ := h x List.mem_cons_self
    refine ⟨max N M, fun n hn y hy => ?_⟩
    rcases List.mem_cons.1 hy with rfl | hy
    · exact hM n (by omega)
    · exact hN n (by omega) y hy
theorem PEv.range {F : Nat → Nat → Option R} {A : Nat → R → Prop} : ∀ (k : Nat), (∀ i, i < k → PEv (F i) (A i)) → ∃ N, ∀ n, N ≤ n → ∀ i, i < k → ∃ r, F i n = some r ∧ A i r
  | 0, _ => ⟨0, fun n _ i hi => absurd hi (Nat.not_lt_zero i)⟩
  | k + 1, h => by
    obtain ⟨N, hN⟩ := PEv.range k fun i hi => h i (by omega)
    obtain ⟨M, hM⟩ := h k (by omega)
    refine ⟨max N M, fun n hn i hi => ?_⟩
    rcases Nat.lt_succ_iff_lt_or_eq.1 hi with hi | rfl
    · exact hN n (by omega) i hi
    · exact hM n (by omega)
theorem PEv.next [DecidableEq R] {rem : KS} {a : Nat → Option R} {F : Nat → List Int → Option R} (hn : rem ≠ []) (h : ∀ y ∈ rem, PEv (fun n => F n y) Q) (hu : ∀ r r', Q r → Q r' → r = r') : PEv (fun n => onNext rem (a n) (F n)) Q := by
  obtain ⟨N, hN⟩ := PEv.all h
  refine ⟨N, fun n hn' => ?_⟩
  obtain ⟨y0, hy0⟩ := List.exists_mem_of_ne_nil rem hn
  obtain ⟨r, h1, h2⟩ := hN n hn' y0 hy0
  refine ⟨r, onNext_of hn fun y hy => ?_, h2⟩
  obtain ⟨r', h3, h4⟩ := hN n hn' y hy
  rw [hu _ _ h2 h4]; exact h3
end
end Go.Proofs.YtekkngkphejfcaaDoor
namespace Go.Proofs.YtekkngkphejfcaaDoor
open Go.RowKit
class HC (F : Fence) : Prop where
  x : HX F Tryd.prog
  w : F = Fence.wide ∨ ∃ l, F = Fence.wide.inRound l
instance : HC Fence.wide := ⟨⟨FOk.wide, by kernel_rfl⟩, .inl rfl⟩
instance (l : Nat) : HC (Fence.wide.inRound l) := ⟨⟨FOk.round l, by kernel_rfl⟩, .inr ⟨l, rfl⟩⟩
abbrev DV.i (x : Int) : DV := .int .i64 x
def sch0 : Sch := fun _ => .no
/-- The slots of a frame that hold something. -/
def liveG : Nat → List DV → List Nat
  | _, [] => []
  | i, .any :: r => liveG (i + 1) r
  | i, _ :: r => i :: liveG (i + 1) r
section
variable {F : Fence} {B : Option Nat} {L : Nat} {Y N : Yard Tryd.prog GG L} {Q : QY Tryd.prog GG L} {k k' : List KI} {S : St} {fr : List DV} {h' h2 : DH} {c : List (DV × DH × Bool)} {o : List (Nat × DV)} {z : List (Nat × Fz)} {v w : List Prop}
theorem gz [hX : HC F] (sch : Sch) (σ : List Nat) (hl : HS c o z v) (ks : List Nat) (hz : HS [] [] [] w) (k' : List KI) (fr : List DV) (h' : DH) (hk : TrG Tryd.prog GG F B L Y Q k' ⟨fr, h'⟩) (tg : List (List (Nat × Nat) × St) := [])
    (h : (krun Tryd.prog GG sch 400 k S ⟨c, o, z, tg⟩).bind (outF (liveG 0 fr) σ L ks) = some (.at k', fr, h', v, w, [], [], true) := by kernel_rfl) (hc : isCode k' = true := by kernel_rfl) : TrG Tryd.prog GG F B L Y Q k S :=
  TrK.gS hX.x sch 400 (liveG 0 fr) σ tg hl ks hz k' fr h' h hc hk
theorem gs [hX : HC F] (sch : Sch) (σ : List Nat) (hl : HS c o z v) (k' : List KI) (fr : List DV) (h' : DH) (hk : TrG Tryd.prog GG F B L Y Q k' ⟨fr, h'⟩) (tg : List (List (Nat × Nat) × St) := [])
    (h : (krun Tryd.prog GG sch 400 k S ⟨c, o, z, tg⟩).bind (outF (liveG 0 fr) σ L []) = some (.at k', fr, h', v, [], [], [], true) := by kernel_rfl) (hc : isCode k' = true := by kernel_rfl) : TrG Tryd.prog GG F B L Y Q k S :=
  TrK.gS hX.x sch 400 (liveG 0 fr) σ tg hl [] H0 k' fr h' h hc hk
theorem gg [hX : HC F] (sch : Sch) (σ : List Nat) (hl : HS c o z v) (hk : TrG Tryd.prog GG F B L Y Q k' ⟨fr, h'⟩) (tg : List (List (Nat × Nat) × St) := [])
    (h : (krun Tryd.prog GG sch 400 k S ⟨c, o, z, tg⟩).bind (outF (liveG 0 fr) σ L []) = some (.at k', fr, h', v, [], [], [], true) := by kernel_rfl) (hc : isCode k' = true := by kernel_rfl) : TrG Tryd.prog GG F B L Y Q k S :=
  TrK.gS hX.x sch 400 (liveG 0 fr) σ tg hl [] H0 k' fr h' h hc hk
theorem el [hX : HC F] {fn : Func} {d : DV} (sch : Sch) (live σ : List Nat) (hl : HS c o z v) (ks : List Nat) (hz : HS [] [] [] w) (rs : List DV) (le : DLe (tupD rs) d) (tg : List (List (Nat × Nat) × St) := [])
    (h : (krun Tryd.prog GG sch 400 k S ⟨c, o, z, tg⟩).bind (outE Tryd.prog live σ L ks fn d h2.length) = some (true, rs, h2, v, w, [], [], true) := by kernel_rfl) : TrK Tryd.prog GG F B L N (Fin Tryd.prog fn L d h2) k S :=
  TrK.el hX.x sch 400 live σ tg hl ks hz rs le h
theorem ez [hX : HC F] {fn : Func} {d : DV} (sch : Sch) (live σ : List Nat) (hl : HS c o z v) (ks : List Nat) (hz : HS [] [] [] w) (tg : List (List (Nat × Nat) × St) := [])
    (h : (krun Tryd.prog GG sch 400 k S ⟨c, o, z, tg⟩).bind (fun r => (outE Tryd.prog live σ L ks fn d h2.length r).map fun q => (q.1, tupD q.2.1, q.2.2)) = some (true, d, h2, v, w, [], [], true) := by kernel_rfl) : TrK Tryd.prog GG F B L N (Fin Tryd.prog fn L d h2) k S :=
  TrK.e hX.x sch 400 live σ tg hl ks hz h
theorem ee [hX : HC F] {fn : Func} {d : DV} (sch : Sch) (live σ : List Nat) (hl : HS c o z v) (tg : List (List (Nat × Nat) × St) := [])
    (h : (krun Tryd.prog GG sch 400 k S ⟨c, o, z, tg⟩).bind (fun r => (outE Tryd.prog live σ L [] fn d h2.length r).map fun q => (q.1, tupD q.2.1, q.2.2)) = some (true, d, h2, v, [], [], [], true) := by kernel_rfl) : TrK Tryd.prog GG F B L N (Fin Tryd.prog fn L d h2) k S :=
  TrK.e hX.x sch 400 live σ tg hl [] H0 h
theorem rr [hX : HC F] {ex : List Exit} {i : Nat} {e : Exit} (sch : Sch) (σ : List Nat) (he : (Exit.normal :: ex)[i]? = some e) (hl : HS c o z v) (tg : List (List (Nat × Nat) × St) := [])
    (h : (krun Tryd.prog GG sch 400 k S ⟨c, o, z, tg⟩).map (outR σ L) = some (some e, h2, v, [], [], [], true) := by kernel_rfl) : TrK Tryd.prog GG F B L N (RndQ L ex i h2) k S :=
  TrK.r hX.x sch 400 σ tg hl he h
theorem ag [hX : HC F] {Q : Exit → St → Prop} {assign body : Code} (sch : Sch) (σ : List Nat) (hl : HS c o z v) (fr : List DV) (h' : DH) (hk : ∀ N2 : Yard Tryd.prog GG L, TrK Tryd.prog GG F B L N2 Q [.code body] ⟨fr, h'⟩)
    (h : (krun Tryd.prog GG sch 400 [.code assign] S ⟨c, o, z, []⟩).map (outC (liveG 0 fr) σ L) = some (.at [], fr, h', v, [], [], true) := by kernel_rfl) : TrA Tryd.prog GG F B L N Q assign body S :=
  TrA.g hX.x sch 400 (liveG 0 fr) σ hl fr h' h hk
theorem rd {n m : Nat} (hm : n + 1 ≤ m) (h : ∀ m, n ≤ m → TrG Tryd.prog GG F B L Y Q (unN m k) S) (hk : isLoop k = true := by kernel_rfl) : TrG Tryd.prog GG F B L Y Q (toN m k) S := TrK.round hm hk h
theorem en (m : Nat) (h : TrG Tryd.prog GG F B L Y Q (toN m k) S) (hk : isLoop k = true := by kernel_rfl) : TrG Tryd.prog GG F B L Y Q k S := TrK.enter m hk h
end
theorem em {f : Nat} {ds : List DV} {h : DH} {d : DV} {h' : DH} {ext : Bool} (hES : ES Tryd.prog GG f ds h d h' ext) (σ : List Nat) (H : DH) (hb : embB σ H.length h.length h'.length = true := by kernel_rfl) (hh : (σ.map fun k => H.getD k none) = h.map (upO σ H.length) := by kernel_rfl) : ES Tryd.prog GG f (ds.map (up σ H.length)) H (up σ H.length d) (embH H σ h') ext := ES.emC hES σ H hb hh
theorem fb {f : Nat} {ds : List DV} {d : DV} (h0 : ES Tryd.prog GG f ds [] d [] true) (h : DH) (hds : ds.all nrefB = true := by kernel_rfl) : ES Tryd.prog GG f ds h d h true := ES.frameB h0 h hds
theorem sb {f : Nat} (ds : List DV) {ds0 : List DV} {d : DV} (h0 : ES Tryd.prog GG f ds0 [] d [] true) (h : DH) (hs : allSnap h ds ds0) (hd : scalB d = true := by kernel_rfl) : ES Tryd.prog GG f ds h d h true := ES.snapB h0 h hs hd
theorem ot {f : Nat} {fn : Func} {ds : List DV} {h : DH} {d : DV} {h' : DH} {ext : Bool} (hf : Tryd.prog.funcs[f]? = some fn) (H : ∀ (B : Nat) (N : Yard Tryd.prog GG h.length), TrK Tryd.prog GG Fence.wide (some B) h.length N (Fin Tryd.prog fn h.length d h') (start fn) ⟨ds ++ List.replicate (fn.ntmps - ds.length) .any, h⟩)
    (hb : fn.body.isSome = true := by kernel_rfl) (hname : (fn.name == "runtime.NumGoroutine") = false := by kernel_rfl) (hni : h'.all noIterD = true := by kernel_rfl) (hext : (!ext || h.isEmpty) = true := by kernel_rfl) : ES Tryd.prog GG f ds h d h' ext :=
  ES.of_trk hf hb hname (noIterB hni) (fun e => by subst e; simpa using hext) H
section
variable {F : Fence} {B L : Nat} {Y : Yard Tryd.prog GG L} {Q : QY Tryd.prog GG L} {fr : List DV} {h : DH} {K : List KI} {a b : Code} {α σ : Type} {l : List α} {H : σ → DH} {FR : α → List DV}
theorem rx [hX : HC F] (ex : List Exit) (kk t : Nat) (ps : Array Tmp) (enc : α → Array Value) (L' : Nat) {f : α → σ → Option (σ × Nat)} {s0 : σ} {rE : σ × Nat} (hf : foldX f l s0 = some rE)
    (hround : ∀ (l B : Nat) (N : Yard Tryd.prog GG L') (x : α) (s : σ) (r : σ × Nat), f x s = some r → TrA Tryd.prog GG (Fence.wide.inRound l) (some B) L' N (RndQ L' ex r.2 (H r.1)) a b ⟨FR x, H s⟩)
    (hdone : ∀ e, (Exit.normal :: ex)[rE.2]? = some e → TrE Tryd.prog GG F (some B) L Q (tailS K) e ⟨fr, H rE.1⟩ Y) (hex : (ex.all fun e => (exC e).isSome) = true := by kernel_rfl)
    (hK : rgSplit K = some (.tmp t, ps, a, b, tailS K) := by kernel_rfl) (hg : opd fr (.tmp t) = .it kk := by kernel_rfl) (hk : h[kk]? = some (some (.iter (l.map enc))) := by kernel_rfl) (hps : ∀ x, (enc x).size = ps.size := by exact fun _ => rfl) (hL : Nat.ble L L' = true := by kernel_rfl) (hfb : fr.all (refB L') = true := by kernel_rfl) (h0 : h.set kk none = H s0 := by kernel_rfl) (hfr : (fun x => setPs fr ps.toList (enc x).toList) = FR := by kernel_rfl) : TrG Tryd.prog GG F (some B) L Y Q K ⟨fr, h⟩ :=
  TrK.rg hX.w ex hex kk t ps enc L' hf hround hK hg hk hps hL hfb h0 hfr hdone
theorem r0 [hX : HC F] (kk t : Nat) (ps : Array Tmp) (enc : α → Array Value) (L' : Nat) {f : α → σ → Option σ} {s0 sE : σ} (hf : foldO f l s0 = some sE)
    (hround : ∀ (l B : Nat) (N : Yard Tryd.prog GG L') (x : α) (s r : σ), f x s = some r → TrA Tryd.prog GG (Fence.wide.inRound l) (some B) L' N (RndQ L' [] 0 (H r)) a b ⟨FR x, H s⟩)
    (hdone : TrG Tryd.prog GG F (some B) L Y Q (tailS K) ⟨fr, H sE⟩) 
    (hK : rgSplit K = some (.tmp t, ps, a, b, tailS K) := by kernel_rfl) (hg : opd fr (.tmp t) = .it kk := by kernel_rfl) (hk : h[kk]? = some (some (.iter (l.map enc))) := by kernel_rfl) (hps : ∀ x, (enc x).size = ps.size := by exact fun _ => rfl) (hL : Nat.ble L L' = true := by kernel_rfl) (hfb : fr.all (refB L') = true := by kernel_rfl) (h0 : h.set kk none = H s0 := by kernel_rfl) (hfr : (fun x => setPs fr ps.toList (enc x).toList) = FR := by kernel_rfl) : TrG Tryd.prog GG F (some B) L Y Q K ⟨fr, h⟩ :=
  TrK.rg0 hX.w kk t ps enc L' hf hround hK hg hk hps hL hfb h0 hfr hdone
end
end Go.Proofs.YtekkngkphejfcaaDoor
namespace Go.Proofs.YtekkngkphejfcaaDoor
open Go.RowKit
set_option maxRecDepth 100000
set_option maxHeartbeats 40000000
theorem s_same_6 : SOk (regF Tryd.f13 6) [] (List.range 9) [] := by unfold SOk; kernel_rfl
def sch_same : Sch := fun i => match i with
  | 6 => .ord [] (List.range 9) []
  | _ => .no
inductive samePt where
  | l1 (x5 : Int)
def same_l1 (n : Nat) (self : samePt → Option Bool) (a b_ : List Int) (x5 : Int) : Option Bool :=
  bif (decide (x5 < (a.length : Int))) then
   if (0 ≤ x5 ∧ x5 < (a.length : Int)) ∧ (0 ≤ x5 ∧ x5 < (b_.length : Int)) then
    bif ((a.getD ((x5).toNat) 0) != (b_.getD ((x5).toNat) 0)) then
     some false
    else
     if R64 (x5 + 1) then
      self (.l1 (x5 + 1))
     else none
   else none
  else
   some true
def same_l0 (n : Nat) (self : samePt → Option Bool) (a b_ : List Int) : Option Bool :=
  bif ((a.length : Int) != (b_.length : Int)) then
   some false
  else
   self (.l1 0)
def same_m (a b_ : List Int) : Nat → samePt → Option Bool
  | 0, _ => none
  | n + 1, .l1 x5 => same_l1 n (same_m a b_ n) a b_ x5
def same (n : Nat) (a b_ : List Int) : Option Bool := same_l0 n (same_m a b_ n) a b_
/-- What the points stand for. -/
def same_at (n : Nat) (B : Nat) (N : Yard Tryd.prog GG 0) (a b_ : List Int) (r : Bool) : samePt → Prop
  | .l1 x5 => ∀ m0 : Nat, n ≤ m0 → TrK Tryd.prog GG Fence.wide (some B) 0 N (Fin Tryd.prog Tryd.f13 0 (.bool r) []) (toN m0 (atNC (bodyC Tryd.f13) 0 [])) ⟨frm 26 [(0, .ints a), (1, .ints b_), (5, .i x5)], []⟩
theorem same_all (B : Nat) (N : Yard Tryd.prog GG 0) (a b_ : List Int) : ∀ (n : Nat) (pt : samePt) (r : Bool), same_m a b_ n pt = some r → same_at n B N a b_ r pt := by
  intro n; induction n with
  | zero => intro _ _ h; cases h
  | succ n hself =>
   intro pt r h
   cases pt
   case l1 x5 =>
    have h : same_l1 n (same_m a b_ n) a b_ x5 = some r := h
    intro m0 hm0
    refine rd hm0 fun m0 hm0 => ?_
    unfold same_l1 at h
    rcases bifSome h with ⟨c0, h⟩ | ⟨c0, h⟩
    · obtain ⟨⟨g0, g1⟩, h⟩ := guardSome h
      have p := H0.b 14 c0 |>.g s_same_6 |>.g g0 |>.g g1
      rcases bifSome h with ⟨c1, h⟩ | ⟨c1, h⟩
      · obtain rfl := Option.some.inj h
        exact ee sch_same [4] [] (p.b 25 c1)
      · obtain ⟨g2, h⟩ := guardSome h
        exact gg sch_same [] (p.b 25 c1 |>.w 16 g2) (hself _ _ h m0 hm0)
    · obtain rfl := Option.some.inj h
      exact ee sch_same [4] [] (H0.b 14 c0)
theorem same_ok {n : Nat} {a b_ : List Int} {r : Bool} (h : same n a b_ = some r) : ES Tryd.prog GG 13 [.ints a, .ints b_] [] (.bool r) [] true := by
  refine ot Tryd.func13 fun B N => ?_
  have hself := same_all B N a b_ n
  unfold same at h
  unfold same_l0 at h
  rcases bifSome h with ⟨c0, h⟩ | ⟨c0, h⟩
  · obtain rfl := Option.some.inj h
    exact ee sch_same [4] [] (H0.b 10 c0)
  · exact gg sch_same [] (H0.b 10 c0) (en n (hself _ _ h n (Nat.le_refl _)))
inductive indexIPt where
  | l1 (x8 : Int)
def indexI_l1 (n : Nat) (self : indexIPt → Option Int) (s_ : List Int) (v : Int) (x8 : Int) : Option Int :=
  bif (decide (x8 < (s_.length : Int))) then
   if 0 ≤ x8 ∧ x8 < (s_.length : Int) then
    bif (v == (s_.getD ((x8).toNat) 0)) then
     some x8
    else
     if R64 (x8 + 1) then
      self (.l1 (x8 + 1))
     else none
   else none
  else
   some (-1)
def indexI_l0 (n : Nat) (self : indexIPt → Option Int) (s_ : List Int) (v : Int) : Option Int :=
  self (.l1 0)
def indexI_m (s_ : List Int) (v : Int) : Nat → indexIPt → Option Int
  | 0, _ => none
  | n + 1, .l1 x8 => indexI_l1 n (indexI_m s_ v n) s_ v x8
def indexI (n : Nat) (s_ : List Int) (v : Int) : Option Int := indexI_l0 n (indexI_m s_ v n) s_ v
/-- What the points stand for. -/
def indexI_at (n : Nat) (B : Nat) (N : Yard Tryd.prog GG 0) (s_ : List Int) (v : Int) (r : Int) : indexIPt → Prop
  | .l1 x8 => ∀ m0 : Nat, n ≤ m0 → TrK Tryd.prog GG Fence.wide (some B) 0 N (Fin Tryd.prog Tryd.f72 0 (.i r) []) (toN m0 (atNC (bodyC Tryd.f72) 0 [])) ⟨frm 19 [(0, .ints s_), (1, .i v), (7, .i (s_.length : Int)), (8, .i x8)], []⟩
theorem indexI_all (B : Nat) (N : Yard Tryd.prog GG 0) (s_ : List Int) (v : Int) : ∀ (n : Nat) (pt : indexIPt) (r : Int), indexI_m s_ v n pt = some r → indexI_at n B N s_ v r pt := by
  intro n; induction n with
  | zero => intro _ _ h; cases h
  | succ n hself =>
   intro pt r h
   cases pt
   case l1 x8 =>
    have h : indexI_l1 n (indexI_m s_ v n) s_ v x8 = some r := h
    intro m0 hm0
    refine rd hm0 fun m0 hm0 => ?_
    unfold indexI_l1 at h
    rcases bifSome h with ⟨c0, h⟩ | ⟨c0, h⟩
    · obtain ⟨g0, h⟩ := guardSome h
      have p := H0.b 9 c0 |>.g g0
      rcases bifSome h with ⟨c1, h⟩ | ⟨c1, h⟩
      · obtain rfl := Option.some.inj h
        exact ee sch0 [4] [] (p.b 16 c1)
      · obtain ⟨g1, h⟩ := guardSome h
        exact gg sch0 [] (p.b 16 c1 |>.w 18 g1) (hself _ _ h m0 hm0)
    · cases h
      exact ee sch0 [4] [] (H0.b 9 c0)
theorem indexI_ok {n : Nat} {s_ : List Int} {v : Int} {r : Int} (h : indexI n s_ v = some r) : ES Tryd.prog GG 72 [.ints s_, .i v] [] (.i r) [] true := by
  refine ot Tryd.func72 fun B N => ?_
  have hself := indexI_all B N s_ v n
  unfold indexI at h
  unfold indexI_l0 at h
  exact gg sch0 [] H0 (en n (hself _ _ h n (Nat.le_refl _)))
inductive indexBPt where
  | l1 (x8 : Int)
def indexB_l1 (n : Nat) (self : indexBPt → Option Int) (s_ : List Bool) (v : Bool) (x8 : Int) : Option Int :=
  bif (decide (x8 < (s_.length : Int))) then
   if 0 ≤ x8 ∧ x8 < (s_.length : Int) then
    bif (v == (s_.getD ((x8).toNat) false)) then
     some x8
    else
     if R64 (x8 + 1) then
      self (.l1 (x8 + 1))
     else none
   else none
  else
   some (-1)
def indexB_l0 (n : Nat) (self : indexBPt → Option Int) (s_ : List Bool) (v : Bool) : Option Int :=
  self (.l1 0)
def indexB_m (s_ : List Bool) (v : Bool) : Nat → indexBPt → Option Int
  | 0, _ => none
  | n + 1, .l1 x8 => indexB_l1 n (indexB_m s_ v n) s_ v x8
def indexB (n : Nat) (s_ : List Bool) (v : Bool) : Option Int := indexB_l0 n (indexB_m s_ v n) s_ v
/-- What the points stand for. -/
def indexB_at (n : Nat) (B : Nat) (N : Yard Tryd.prog GG 0) (s_ : List Bool) (v : Bool) (r : Int) : indexBPt → Prop
  | .l1 x8 => ∀ m0 : Nat, n ≤ m0 → TrK Tryd.prog GG Fence.wide (some B) 0 N (Fin Tryd.prog Tryd.f74 0 (.i r) []) (toN m0 (atNC (bodyC Tryd.f74) 0 [])) ⟨frm 19 [(0, .bools s_), (1, .bool v), (7, .i (s_.length : Int)), (8, .i x8)], []⟩
theorem indexB_all (B : Nat) (N : Yard Tryd.prog GG 0) (s_ : List Bool) (v : Bool) : ∀ (n : Nat) (pt : indexBPt) (r : Int), indexB_m s_ v n pt = some r → indexB_at n B N s_ v r pt := by
  intro n; induction n with
  | zero => intro _ _ h; cases h
  | succ n hself =>
   intro pt r h
   cases pt
   case l1 x8 =>
    have h : indexB_l1 n (indexB_m s_ v n) s_ v x8 = some r := h
    intro m0 hm0
    refine rd hm0 fun m0 hm0 => ?_
    unfold indexB_l1 at h
    rcases bifSome h with ⟨c0, h⟩ | ⟨c0, h⟩
    · obtain ⟨g0, h⟩ := guardSome h
      have p := H0.b 9 c0 |>.g g0
      rcases bifSome h with ⟨c1, h⟩ | ⟨c1, h⟩
      · obtain rfl := Option.some.inj h
        exact ee sch0 [4] [] (p.b 16 c1)
      · obtain ⟨g1, h⟩ := guardSome h
        exact gg sch0 [] (p.b 16 c1 |>.w 18 g1) (hself _ _ h m0 hm0)
    · cases h
      exact ee sch0 [4] [] (H0.b 9 c0)
theorem indexB_ok {n : Nat} {s_ : List Bool} {v : Bool} {r : Int} (h : indexB n s_ v = some r) : ES Tryd.prog GG 74 [.bools s_, .bool v] [] (.i r) [] true := by
  refine ot Tryd.func74 fun B N => ?_
  have hself := indexB_all B N s_ v n
  unfold indexB at h
  unfold indexB_l0 at h
  exact gg sch0 [] H0 (en n (hself _ _ h n (Nat.le_refl _)))
def containsI_l0 (n : Nat) (s_ : List Int) (v : Int) : Option Bool :=
  (indexI n s_ v).bind fun y1 =>
   some (decide (y1 ≥ 0))
def containsI (n : Nat) (s_ : List Int) (v : Int) : Option Bool := containsI_l0 n s_ v
theorem containsI_ok {n : Nat} {s_ : List Int} {v : Int} {r : Bool} (h : containsI n s_ v = some r) : ES Tryd.prog GG 54 [.ints s_, .i v] [] (.bool r) [] true := by
  refine ot Tryd.func54 fun B N => ?_
  unfold containsI at h
  unfold containsI_l0 at h
  obtain ⟨y1, hy1, h⟩ := bindSome h
  cases h
  exact ee sch0 [4] [] (H0.c (fb (indexI_ok hy1) []))
inductive gcheckPt where
  | l1 (x12 : Int)
  | l2 (x3 : Int) (x4 : List Int) (x12 : Int) (x17 : List Int) (x18 x19 : Int)
def gcheck_l1 (n : Nat) (self : gcheckPt → Option Int) (g_ : List (List Int)) (x12 : Int) : Option Int :=
  bif (decide (x12 < (g_.length : Int))) then
   if 0 ≤ x12 ∧ x12 < (g_.length : Int) then
    self (.l2 x12 (g_.getD ((x12).toNat) []) x12 (g_.getD ((x12).toNat) []) (((g_.getD ((x12).toNat) []).length : Nat) : Int) 0)
   else none
  else
   some 0
def gcheck_l2 (n : Nat) (self : gcheckPt → Option Int) (g_ : List (List Int)) (x3 : Int) (x4 : List Int) (x12 : Int) (x17 : List Int) (x18 x19 : Int) : Option Int :=
  bif (decide (x19 < x18)) then
   if 0 ≤ x19 ∧ x19 < (x17.length : Int) then
    bif (decide ((x17.getD ((x19).toNat) 0) < 0)) then
     some 120
    else
     bif (decide ((x17.getD ((x19).toNat) 0) ≥ (g_.length : Int))) then
      some 120
     else
      bif ((x17.getD ((x19).toNat) 0) == x3) then
       some 120
      else
       bif (decide (x19 > 0)) then
        if R64 (x19 - 1) ∧ (0 ≤ (x19 - 1) ∧ (x19 - 1) < (x4.length : Int)) then
         bif (decide ((x4.getD (((x19 - 1)).toNat) 0) ≥ (x17.getD ((x19).toNat) 0))) then
          some 120
         else
          if 0 ≤ (x17.getD ((x19).toNat) 0) ∧ (x17.getD ((x19).toNat) 0) < (g_.length : Int) then
           (containsI n (g_.getD ((x17.getD ((x19).toNat) 0).toNat) []) x3).bind fun y1 =>
            bif (!y1) then
             some 120
            else
             if R64 (x19 + 1) then
              self (.l2 x3 x4 x12 x17 x18 (x19 + 1))
             else none
          else none
        else none
       else
        if 0 ≤ (x17.getD ((x19).toNat) 0) ∧ (x17.getD ((x19).toNat) 0) < (g_.length : Int) then
         (containsI n (g_.getD ((x17.getD ((x19).toNat) 0).toNat) []) x3).bind fun y1 =>
          bif (!y1) then
           some 120
          else
           if R64 (x19 + 1) then
            self (.l2 x3 x4 x12 x17 x18 (x19 + 1))
           else none
        else none
   else none
  else
   if R64 (x12 + 1) then
    self (.l1 (x12 + 1))
   else none
def gcheck_l0 (n : Nat) (self : gcheckPt → Option Int) (g_ : List (List Int)) : Option Int :=
  bif (decide ((g_.length : Int) > 256)) then
   some 120
  else
   self (.l1 0)
def gcheck_m (g_ : List (List Int)) : Nat → gcheckPt → Option Int
  | 0, _ => none
  | n + 1, .l1 x12 => gcheck_l1 n (gcheck_m g_ n) g_ x12
  | n + 1, .l2 x3 x4 x12 x17 x18 x19 => gcheck_l2 n (gcheck_m g_ n) g_ x3 x4 x12 x17 x18 x19
def gcheck (n : Nat) (g_ : List (List Int)) : Option Int := gcheck_l0 n (gcheck_m g_ n) g_
/-- What the points stand for. -/
def gcheck_at (n : Nat) (B : Nat) (N : Yard Tryd.prog GG 0) (g_ : List (List Int)) (r : Int) : gcheckPt → Prop
  | .l1 x12 => ∀ m0 : Nat, n ≤ m0 → TrK Tryd.prog GG Fence.wide (some B) 0 N (Fin Tryd.prog Tryd.f32 0 (.i r) []) (toN m0 (atNC (bodyC Tryd.f32) 0 [])) ⟨frm 61 [(0, .sl 1 g_.length (rowE intsC g_)), (10, .sl 1 g_.length (rowE intsC g_)), (11, .i (g_.length : Int)), (12, .i x12)], []⟩
  | .l2 x3 x4 x12 x17 x18 x19 => ∀ m0 m1 : Nat, n ≤ m0 → n ≤ m1 → TrK Tryd.prog GG Fence.wide (some B) 0 N (Fin Tryd.prog Tryd.f32 0 (.i r) []) (toN m1 (atNC (bodyC Tryd.f32) 2 [m0])) ⟨frm 61 [(0, .sl 1 g_.length (rowE intsC g_)), (3, .i x3), (4, .ints x4), (10, .sl 1 g_.length (rowE intsC g_)), (11, .i (g_.length : Int)), (12, .i x12), (17, .ints x17), (18, .i x18), (19, .i x19)], []⟩
theorem gcheck_all (B : Nat) (N : Yard Tryd.prog GG 0) (g_ : List (List Int)) : ∀ (n : Nat) (pt : gcheckPt) (r : Int), gcheck_m g_ n pt = some r → gcheck_at n B N g_ r pt := by
  intro n; induction n with
  | zero => intro _ _ h; cases h
  | succ n hself =>
   intro pt r h
   cases pt
   case l1 x12 =>
    have h : gcheck_l1 n (gcheck_m g_ n) g_ x12 = some r := h
    intro m0 hm0
    refine rd hm0 fun m0 hm0 => ?_
    unfold gcheck_l1 at h
    rcases bifSome h with ⟨c0, h⟩ | ⟨c0, h⟩
    · obtain ⟨g0, h⟩ := guardSome h
      exact gg sch0 [] (H0.b 13 c0 |>.g g0) (en n (hself _ _ h m0 n hm0 (Nat.le_refl _)))
    · obtain rfl := Option.some.inj h
      exact ee sch0 [2] [] (H0.b 13 c0)
   case l2 x3 x4 x12 x17 x18 x19 =>
    have h : gcheck_l2 n (gcheck_m g_ n) g_ x3 x4 x12 x17 x18 x19 = some r := h
    intro m0 m1 hm0 hm1
    have hm0 := Nat.le_of_succ_le hm0
    refine rd hm1 fun m1 hm1 => ?_
    unfold gcheck_l2 at h
    rcases bifSome h with ⟨c0, h⟩ | ⟨c0, h⟩
    · obtain ⟨g0, h⟩ := guardSome h
      have p := H0.b 20 c0 |>.g g0
      rcases bifSome h with ⟨c1, h⟩ | ⟨c1, h⟩
      · obtain rfl := Option.some.inj h
        exact ee sch0 [2] [] (p.b 25 c1)
      · have p := p.b 25 c1
        rcases bifSome h with ⟨c2, h⟩ | ⟨c2, h⟩
        · obtain rfl := Option.some.inj h
          exact ee sch0 [2] [] (p.b 30 c2)
        · have p := p.b 30 c2
          rcases bifSome h with ⟨c3, h⟩ | ⟨c3, h⟩
          · obtain rfl := Option.some.inj h
            exact ee sch0 [2] [] (p.b 35 c3)
          · have p := p.b 35 c3
            rcases bifSome h with ⟨c4, h⟩ | ⟨c4, h⟩
            · obtain ⟨⟨g1, g2⟩, h⟩ := guardSome h
              have p := p.b 39 c4 |>.w 43 g1 |>.g g2
              rcases bifSome h with ⟨c5, h⟩ | ⟨c5, h⟩
              · obtain rfl := Option.some.inj h
                exact ee sch0 [2] [] (p.b 47 c5)
              · obtain ⟨g3, h⟩ := guardSome h
                obtain ⟨y1, hy1, h⟩ := bindSome h
                have p := p.b 47 c5 |>.g g3 |>.c (fb (containsI_ok hy1) [])
                rcases bifSome h with ⟨c6, h⟩ | ⟨c6, h⟩
                · obtain rfl := Option.some.inj h
                  exact ee sch0 [2] [] (p.b 57 c6)
                · obtain ⟨g4, h⟩ := guardSome h
                  exact gg sch0 [] (p.b 57 c6 |>.w 59 g4) (hself _ _ h m0 m1 hm0 hm1)
            · obtain ⟨g1, h⟩ := guardSome h
              obtain ⟨y1, hy1, h⟩ := bindSome h
              have p := p.b 39 c4 |>.g g1 |>.c (fb (containsI_ok hy1) [])
              rcases bifSome h with ⟨c5, h⟩ | ⟨c5, h⟩
              · obtain rfl := Option.some.inj h
                exact ee sch0 [2] [] (p.b 57 c5)
              · obtain ⟨g2, h⟩ := guardSome h
                exact gg sch0 [] (p.b 57 c5 |>.w 59 g2) (hself _ _ h m0 m1 hm0 hm1)
    · obtain ⟨g0, h⟩ := guardSome h
      exact gg sch0 [] (H0.b 20 c0 |>.w 60 g0) (hself _ _ h m0 hm0)
theorem gcheck_ok {n : Nat} {g_ : List (List Int)} {r : Int} (h : gcheck n g_ = some r) : ES Tryd.prog GG 32 [.sl 1 g_.length (rowE intsC g_)] [] (.i r) [] true := by
  refine ot Tryd.func32 fun B N => ?_
  have hself := gcheck_all B N g_ n
  unfold gcheck at h
  unfold gcheck_l0 at h
  rcases bifSome h with ⟨c0, h⟩ | ⟨c0, h⟩
  · obtain rfl := Option.some.inj h
    exact ee sch0 [2] [] (H0.b 9 c0)
  · exact gg sch0 [] (H0.b 9 c0) (en n (hself _ _ h n (Nat.le_refl _)))
inductive fewProblemPt where
  | l1 (x3 : Int)
def fewProblem_l1 (n : Nat) (self : fewProblemPt → Option Bool) (q : ProbD) (x3 : Int) : Option Bool :=
  bif (decide (x3 < (q.cons.length : Int))) then
   if 0 ≤ x3 ∧ x3 < (q.cons.length : Int) then
    bif (decide (((((q.cons.getD ((x3).toNat) default).cells).length : Nat) : Int) > 20)) then
     some false
    else
     bif (decide (((((q.cons.getD ((x3).toNat) default).runs).length : Nat) : Int) > 10)) then
      some false
     else
      if R64 (x3 + 1) then
       self (.l1 (x3 + 1))
      else none
   else none
  else
   some true
def fewProblem_l0 (n : Nat) (self : fewProblemPt → Option Bool) (q : ProbD) : Option Bool :=
  bif (decide (q.cells > 16)) then
   some false
  else
   bif (decide (q.symbols > 6)) then
    some false
   else
    bif (decide ((q.values.length : Int) > 8)) then
     some false
    else
     bif (decide ((q.nbrs.length : Int) > 20)) then
      some false
     else
      bif (decide ((q.cons.length : Int) > 120)) then
       some false
      else
       self (.l1 0)
def fewProblem_m (q : ProbD) : Nat → fewProblemPt → Option Bool
  | 0, _ => none
  | n + 1, .l1 x3 => fewProblem_l1 n (fewProblem_m q n) q x3
def fewProblem (n : Nat) (q : ProbD) : Option Bool := fewProblem_l0 n (fewProblem_m q n) q
/-- What the points stand for. -/
def fewProblem_at (n : Nat) (B : Nat) (N : Yard Tryd.prog GG 0) (q : ProbD) (r : Bool) : fewProblemPt → Prop
  | .l1 x3 => ∀ m0 : Nat, n ≤ m0 → TrK Tryd.prog GG Fence.wide (some B) 0 N (Fin Tryd.prog Tryd.f21 0 (.bool r) []) (toN m0 (atNC (bodyC Tryd.f21) 0 [])) ⟨frm 55 [(1, .ref 0 0), (3, .i x3)], [some (.cells (probC q))]⟩
theorem fewProblem_all (B : Nat) (N : Yard Tryd.prog GG 0) (q : ProbD) : ∀ (n : Nat) (pt : fewProblemPt) (r : Bool), fewProblem_m q n pt = some r → fewProblem_at n B N q r pt := by
  intro n; induction n with
  | zero => intro _ _ h; cases h
  | succ n hself =>
   intro pt r h
   cases pt
   case l1 x3 =>
    have h : fewProblem_l1 n (fewProblem_m q n) q x3 = some r := h
    intro m0 hm0
    refine rd hm0 fun m0 hm0 => ?_
    unfold fewProblem_l1 at h
    rcases bifSome h with ⟨c0, h⟩ | ⟨c0, h⟩
    · obtain ⟨g0, h⟩ := guardSome h
      have p := H0.b 34 c0 |>.g g0
      rcases bifSome h with ⟨c1, h⟩ | ⟨c1, h⟩
      · obtain rfl := Option.some.inj h
        exact ee sch0 [2] [] (p.b 44 c1)
      · have p := p.b 44 c1 |>.g g0
        rcases bifSome h with ⟨c2, h⟩ | ⟨c2, h⟩
        · obtain rfl := Option.some.inj h
          exact ee sch0 [2] [] (p.b 53 c2)
        · obtain ⟨g1, h⟩ := guardSome h
          exact gg sch0 [0] (p.b 53 c2 |>.w 36 g1) (hself _ _ h m0 hm0)
    · obtain rfl := Option.some.inj h
      exact ee sch0 [2] [] (H0.b 34 c0)
theorem fewProblem_ok {n : Nat} {q : ProbD} {r : Bool} (h : fewProblem n q = some r) : ES Tryd.prog GG 21 [.agg 5 (L1 (probC q))] [] (.bool r) [] true := by
  refine ot Tryd.func21 fun B N => ?_
  have hself := fewProblem_all B N q n
  unfold fewProblem at h
  unfold fewProblem_l0 at h
  rcases bifSome h with ⟨c0, h⟩ | ⟨c0, h⟩
  · obtain rfl := Option.some.inj h
    exact ee sch0 [2] [] (H0.b 6 c0)
  · have p := H0.b 6 c0
    rcases bifSome h with ⟨c1, h⟩ | ⟨c1, h⟩
    · obtain rfl := Option.some.inj h
      exact ee sch0 [2] [] (p.b 10 c1)
    · have p := p.b 10 c1
      rcases bifSome h with ⟨c2, h⟩ | ⟨c2, h⟩
      · obtain rfl := Option.some.inj h
        exact ee sch0 [2] [] (p.b 16 c2)
      · have p := p.b 16 c2
        rcases bifSome h with ⟨c3, h⟩ | ⟨c3, h⟩
        · obtain rfl := Option.some.inj h
          exact ee sch0 [2] [] (p.b 22 c3)
        · have p := p.b 22 c3
          rcases bifSome h with ⟨c4, h⟩ | ⟨c4, h⟩
          · obtain rfl := Option.some.inj h
            exact ee sch0 [2] [] (p.b 28 c4)
          · exact gg sch0 [0] (p.b 28 c4) (en n (hself _ _ h n (Nat.le_refl _)))
end Go.Proofs.YtekkngkphejfcaaDoor
namespace Go.Proofs.YtekkngkphejfcaaDoor
open Go.RowKit
set_option maxRecDepth 100000
set_option maxHeartbeats 40000000
def wiOut_l0 (n : Nat) (v lo hi : Int) : Option Bool :=
  bif (decide (v < lo)) then
   some true
  else
   some (decide (v > hi))
def wiOut (n : Nat) (v lo hi : Int) : Option Bool := wiOut_l0 n v lo hi
theorem wiOut_ok {n : Nat} {v lo hi : Int} {r : Bool} (h : wiOut n v lo hi = some r) : ES Tryd.prog GG 53 [.i v, .fp 1 (L1 [.i lo]), .fp 1 (L1 [.i hi])] [] (.bool r) [] true := by
  refine ot Tryd.func53 fun B N => ?_
  unfold wiOut at h
  unfold wiOut_l0 at h
  rcases bifSome h with ⟨c0, h⟩ | ⟨c0, h⟩
  · obtain rfl := Option.some.inj h
    exact ee sch0 [4] [] (H0.b 7 c0)
  · cases h
    exact ee sch0 [4] [] (H0.b 7 c0)
inductive indexOutPt where
  | l1 (x8 : Int)
def indexOut_l1 (n : Nat) (self : indexOutPt → Option Int) (l : List Int) (lo hi : Int) (x8 : Int) : Option Int :=
  bif (decide (x8 < (l.length : Int))) then
   if 0 ≤ x8 ∧ x8 < (l.length : Int) then
    (wiOut n (l.getD ((x8).toNat) 0) lo hi).bind fun y1 =>
     bif y1 then
      some x8
     else
      if R64 (x8 + 1) then
       self (.l1 (x8 + 1))
      else none
   else none
  else
   some (-1)
def indexOut_l0 (n : Nat) (self : indexOutPt → Option Int) (l : List Int) (lo hi : Int) : Option Int :=
  self (.l1 0)
def indexOut_m (l : List Int) (lo hi : Int) : Nat → indexOutPt → Option Int
  | 0, _ => none
  | n + 1, .l1 x8 => indexOut_l1 n (indexOut_m l lo hi n) l lo hi x8
def indexOut (n : Nat) (l : List Int) (lo hi : Int) : Option Int := indexOut_l0 n (indexOut_m l lo hi n) l lo hi
/-- What the points stand for. -/
def indexOut_at (n : Nat) (B : Nat) (N : Yard Tryd.prog GG 0) (l : List Int) (lo hi : Int) (r : Int) : indexOutPt → Prop
  | .l1 x8 => ∀ m0 : Nat, n ≤ m0 → TrK Tryd.prog GG Fence.wide (some B) 0 N (Fin Tryd.prog Tryd.f71 0 (.i r) []) (toN m0 (atNC (bodyC Tryd.f71) 0 [])) ⟨frm 19 [(0, .ints l), (1, .fn 53 2 (L1 [.fp 1 (L1 [.i lo]), .fp 1 (L1 [.i hi])])), (7, .i (l.length : Int)), (8, .i x8)], []⟩
theorem indexOut_all (B : Nat) (N : Yard Tryd.prog GG 0) (l : List Int) (lo hi : Int) : ∀ (n : Nat) (pt : indexOutPt) (r : Int), indexOut_m l lo hi n pt = some r → indexOut_at n B N l lo hi r pt := by
  intro n; induction n with
  | zero => intro _ _ h; cases h
  | succ n hself =>
   intro pt r h
   cases pt
   case l1 x8 =>
    have h : indexOut_l1 n (indexOut_m l lo hi n) l lo hi x8 = some r := h
    intro m0 hm0
    refine rd hm0 fun m0 hm0 => ?_
    unfold indexOut_l1 at h
    rcases bifSome h with ⟨c0, h⟩ | ⟨c0, h⟩
    · obtain ⟨g0, h⟩ := guardSome h
      obtain ⟨y1, hy1, h⟩ := bindSome h
      have p := H0.b 9 c0 |>.g g0 |>.c (fb (wiOut_ok hy1) [])
      rcases bifSome h with ⟨c1, h⟩ | ⟨c1, h⟩
      · obtain rfl := Option.some.inj h
        exact ee sch0 [4] [] (p.b 16 c1)
      · obtain ⟨g1, h⟩ := guardSome h
        exact gg sch0 [] (p.b 16 c1 |>.w 18 g1) (hself _ _ h m0 hm0)
    · cases h
      exact ee sch0 [4] [] (H0.b 9 c0)
theorem indexOut_ok {n : Nat} {l : List Int} {lo hi : Int} {r : Int} (h : indexOut n l lo hi = some r) : ES Tryd.prog GG 71 [.ints l, .fn 53 2 (L1 [.fp 1 (L1 [.i lo]), .fp 1 (L1 [.i hi])])] [] (.i r) [] true := by
  refine ot Tryd.func71 fun B N => ?_
  have hself := indexOut_all B N l lo hi n
  unfold indexOut at h
  unfold indexOut_l0 at h
  exact gg sch0 [] H0 (en n (hself _ _ h n (Nat.le_refl _)))
def containsOut_l0 (n : Nat) (l : List Int) (lo hi : Int) : Option Bool :=
  (indexOut n l lo hi).bind fun y1 =>
   some (decide (y1 ≥ 0))
def containsOut (n : Nat) (l : List Int) (lo hi : Int) : Option Bool := containsOut_l0 n l lo hi
theorem containsOut_ok {n : Nat} {l : List Int} {lo hi : Int} {r : Bool} (h : containsOut n l lo hi = some r) : ES Tryd.prog GG 52 [.ints l, .fn 53 2 (L1 [.fp 1 (L1 [.i lo]), .fp 1 (L1 [.i hi])])] [] (.bool r) [] true := by
  refine ot Tryd.func52 fun B N => ?_
  unfold containsOut at h
  unfold containsOut_l0 at h
  obtain ⟨y1, hy1, h⟩ := bindSome h
  cases h
  exact ee sch0 [4] [] (H0.c (fb (indexOut_ok hy1) []))
def pzwithin_l0 (n : Nat) (l_ : List Int) (lo hi : Int) : Option Bool :=
  (containsOut n l_ lo hi).bind fun y1 =>
   some (!y1)
def pzwithin (n : Nat) (l_ : List Int) (lo hi : Int) : Option Bool := pzwithin_l0 n l_ lo hi
theorem pzwithin_ok {n : Nat} {l_ : List Int} {lo hi : Int} {r : Bool} (h : pzwithin n l_ lo hi = some r) : ES Tryd.prog GG 31 [.ints l_, .i lo, .i hi] [] (.bool r) [] true := by
  refine ot Tryd.func31 fun B N => ?_
  unfold pzwithin at h
  unfold pzwithin_l0 at h
  obtain ⟨y1, hy1, h⟩ := bindSome h
  cases h
  exact ee sch0 [6] [] (H0.c (sb [.ints l_, .fn 53 2 (L1 [.ref 0 0, .ref 1 0])] (containsOut_ok hy1) [some (.cells [.i lo]), some (.cells [.i hi])] ⟨Snap.plain (by kernel_rfl), (Snap.fnL (l := [.ref 0 0, .ref 1 0]) (l0 := [.fp 1 (L1 [.i lo]), .fp 1 (L1 [.i hi])]) ⟨(Snap.refL (l := [.i lo]) (l0 := [.i lo]) rfl ⟨Snap.plain (by kernel_rfl), trivial⟩), (Snap.refL (l := [.i hi]) (l0 := [.i hi]) rfl ⟨Snap.plain (by kernel_rfl), trivial⟩), trivial⟩), trivial⟩))
theorem s_fineD_24 : SOk (regF Tryd.f35 24) [([0, 1, 2, 3, 5, 6, 7, 8], 4), ([], 9), ([10, 11, 12, 13, 14], 15), ([], 16), ([17, 18, 19, 20, 21, 22, 23, 24, 25, 26], 27)] [28, 29] [] := by unfold SOk; kernel_rfl
def sch_fineD : Sch := fun i => match i with
  | 24 => .ord [([0, 1, 2, 3, 5, 6, 7, 8], 4), ([], 9), ([10, 11, 12, 13, 14], 15), ([], 16), ([17, 18, 19, 20, 21, 22, 23, 24, 25, 26], 27)] [28, 29] []
  | _ => .no
def hp_fineD_0 (q : ProbD) (c_ : ConsD) : DH := [some (.cells (probC q)), some (.cells (consC c_)), some (.ints ([c_.set, c_.other] : List Int)), some (.ints ([c_.lo, c_.hi] : List Int))]
inductive fineDPt where
  | l1 (x11 : Int) (o2 : List Bool)
  | l2
def fineD_l1 (n : Nat) (self : fineDPt → Option Bool) (q : ProbD) (c_ : ConsD) (x11 : Int) (o2 : List Bool) : Option Bool :=
  bif (decide (x11 < (c_.cells.length : Int))) then
   if 0 ≤ x11 ∧ x11 < (c_.cells.length : Int) then
    bif (decide ((c_.cells.getD ((x11).toNat) 0) < 0)) then
     some false
    else
     bif (decide ((c_.cells.getD ((x11).toNat) 0) ≥ q.cells)) then
      some false
     else
      if (0 ≤ (c_.cells.getD ((x11).toNat) 0) ∧ (c_.cells.getD ((x11).toNat) 0) < ((256 : Nat) : Int)) ∧ 0 + ((c_.cells.getD ((x11).toNat) 0).toNat) < o2.length then
       bif (o2.getD (0 + ((c_.cells.getD ((x11).toNat) 0).toNat)) false) then
        some false
       else
        bif (decide (c_.kind ≥ 8)) then
         bif ((c_.cells.getD ((x11).toNat) 0) != x11) then
          some false
         else
          if R64 (x11 + 1) then
           self (.l1 (x11 + 1) (o2.set (0 + ((c_.cells.getD ((x11).toNat) 0).toNat)) true))
          else none
        else
         if R64 (x11 + 1) then
          self (.l1 (x11 + 1) (o2.set (0 + ((c_.cells.getD ((x11).toNat) 0).toNat)) true))
         else none
      else none
   else none
  else
   bif (c_.kind == 1) then
    self (.l2)
   else
    bif (c_.kind == 2) then
     self (.l2)
    else
     bif (c_.kind == 3) then
      self (.l2)
     else
      bif (c_.kind == 4) then
       self (.l2)
      else
       bif (c_.kind == 5) then
        self (.l2)
       else
        bif (c_.kind == 6) then
         bif ((c_.cells.length : Int) != 2) then
          some false
         else
          self (.l2)
        else
         bif (c_.kind == 7) then
          bif ((c_.cells.length : Int) != 2) then
           some false
          else
           self (.l2)
         else
          bif (c_.kind == 8) then
           bif ((c_.cells.length : Int) != q.cells) then
            some false
           else
            self (.l2)
          else
           bif (c_.kind == 9) then
            bif ((c_.cells.length : Int) != q.cells) then
             some false
            else
             self (.l2)
           else
            some false
def fineD_l2 (n : Nat) (self : fineDPt → Option Bool) (q : ProbD) (c_ : ConsD) : Option Bool :=
  if (0 ≤ q.symbols ∧ q.symbols ≤ (IntKind.i64.bits : Int)) ∧ R64 ((IntKind.i64.wrap (1 * 2 ^ (q.symbols).toNat)) - 1) then
   (pzwithin n ([c_.set, c_.other] : List Int) 0 ((IntKind.i64.wrap (1 * 2 ^ (q.symbols).toNat)) - 1)).bind fun y1 =>
    bif y1 then
     (pzwithin n ([c_.lo, c_.hi] : List Int) 0 65536).bind fun y2 =>
      bif y2 then
       bif (decide ((c_.runs.length : Int) ≤ 8)) then
        (pzwithin n c_.runs 1 256).bind fun y3 =>
         some y3
       else
        some false
      else
       some false
    else
     some false
  else none
def fineD_l0 (n : Nat) (self : fineDPt → Option Bool) (q : ProbD) (c_ : ConsD) : Option Bool :=
  self (.l1 0 (List.replicate 256 false))
def fineD_m (q : ProbD) (c_ : ConsD) : Nat → fineDPt → Option Bool
  | 0, _ => none
  | n + 1, .l1 x11 o2 => fineD_l1 n (fineD_m q c_ n) q c_ x11 o2
  | n + 1, .l2 => fineD_l2 n (fineD_m q c_ n) q c_
def fineD (n : Nat) (q : ProbD) (c_ : ConsD) : Option Bool := fineD_l0 n (fineD_m q c_ n) q c_
/-- What the points stand for. -/
def fineD_at (n : Nat) (B : Nat) (N : Yard Tryd.prog GG 0) (q : ProbD) (c_ : ConsD) (r : Bool) : fineDPt → Prop
  | .l1 x11 o2 => ∀ m0 : Nat, n ≤ m0 → TrK Tryd.prog GG Fence.wide (some B) 0 N (Fin Tryd.prog Tryd.f35 0 (.bool r) []) (toN m0 (atNC (bodyC Tryd.f35) 0 [])) ⟨frm 95 [(2, .ref 0 0), (3, .ref 1 0), (5, .mp 2 1 0 0), (9, .ints c_.cells), (10, .i (c_.cells.length : Int)), (11, .i x11)], [some (.cells (probC q)), some (.cells (consC c_)), some (.bools o2)]⟩
  | .l2 => TrK Tryd.prog GG Fence.wide (some B) 0 N (Fin Tryd.prog Tryd.f35 0 (.bool r) []) (atGC (bodyC Tryd.f35) 24 []) ⟨frm 95 [(2, .ref 0 0), (3, .ref 1 0)], [some (.cells (probC q)), some (.cells (consC c_))]⟩
theorem fineD_all (B : Nat) (N : Yard Tryd.prog GG 0) (q : ProbD) (c_ : ConsD) : ∀ (n : Nat) (pt : fineDPt) (r : Bool), fineD_m q c_ n pt = some r → fineD_at n B N q c_ r pt := by
  intro n; induction n with
  | zero => intro _ _ h; cases h
  | succ n hself =>
   intro pt r h
   cases pt
   case l1 x11 o2 =>
    have h : fineD_l1 n (fineD_m q c_ n) q c_ x11 o2 = some r := h
    intro m0 hm0
    refine rd hm0 fun m0 hm0 => ?_
    unfold fineD_l1 at h
    rcases bifSome h with ⟨c0, h⟩ | ⟨c0, h⟩
    · obtain ⟨g0, h⟩ := guardSome h
      have p := H0.b 12 c0 |>.g g0
      rcases bifSome h with ⟨c1, h⟩ | ⟨c1, h⟩
      · obtain rfl := Option.some.inj h
        exact ee (stopAt 24 sch_fineD) [4] [] (p.b 17 c1)
      · have p := p.b 17 c1
        rcases bifSome h with ⟨c2, h⟩ | ⟨c2, h⟩
        · obtain rfl := Option.some.inj h
          exact ee (stopAt 24 sch_fineD) [4] [] (p.b 22 c2)
        · obtain ⟨⟨g1, g2⟩, h⟩ := guardSome h
          have p := p.b 22 c2 |>.g g1 |>.g g2
          rcases bifSome h with ⟨c3, h⟩ | ⟨c3, h⟩
          · obtain rfl := Option.some.inj h
            exact ee (stopAt 24 sch_fineD) [4] [] (p.b 27 c3)
          · have p := p.b 27 c3
            rcases bifSome h with ⟨c4, h⟩ | ⟨c4, h⟩
            · have p := p.b 32 c4
              rcases bifSome h with ⟨c5, h⟩ | ⟨c5, h⟩
              · obtain rfl := Option.some.inj h
                exact ee (stopAt 24 sch_fineD) [4] [] (p.b 36 c5)
              · obtain ⟨g3, h⟩ := guardSome h
                exact gg (stopAt 24 sch_fineD) [0, 1, 2] (p.b 36 c5 |>.g g1 |>.g g2 |>.w 41 g3) (hself _ _ h m0 hm0)
            · obtain ⟨g3, h⟩ := guardSome h
              exact gg (stopAt 24 sch_fineD) [0, 1, 2] (p.b 32 c4 |>.g g1 |>.g g2 |>.w 41 g3) (hself _ _ h m0 hm0)
    · have p := H0.b 12 c0
      rcases bifSome h with ⟨c1, h⟩ | ⟨c1, h⟩
      · exact gg (stopAt 24 sch_fineD) [0, 1] (p.b 45 c1) (hself _ _ h)
      · have p := p.b 45 c1
        rcases bifSome h with ⟨c2, h⟩ | ⟨c2, h⟩
        · exact gg (stopAt 24 sch_fineD) [0, 1] (p.b 46 c2) (hself _ _ h)
        · have p := p.b 46 c2
          rcases bifSome h with ⟨c3, h⟩ | ⟨c3, h⟩
          · exact gg (stopAt 24 sch_fineD) [0, 1] (p.b 47 c3) (hself _ _ h)
          · have p := p.b 47 c3
            rcases bifSome h with ⟨c4, h⟩ | ⟨c4, h⟩
            · exact gg (stopAt 24 sch_fineD) [0, 1] (p.b 48 c4) (hself _ _ h)
            · have p := p.b 48 c4
              rcases bifSome h with ⟨c5, h⟩ | ⟨c5, h⟩
              · exact gg (stopAt 24 sch_fineD) [0, 1] (p.b 49 c5) (hself _ _ h)
              · have p := p.b 49 c5
                rcases bifSome h with ⟨c6, h⟩ | ⟨c6, h⟩
                · have p := p.b 51 c6
                  rcases bifSome h with ⟨c7, h⟩ | ⟨c7, h⟩
                  · obtain rfl := Option.some.inj h
                    exact ee (stopAt 24 sch_fineD) [4] [] (p.b 56 c7)
                  · exact gg (stopAt 24 sch_fineD) [0, 1] (p.b 56 c7) (hself _ _ h)
                · have p := p.b 51 c6
                  rcases bifSome h with ⟨c7, h⟩ | ⟨c7, h⟩
                  · have p := p.b 52 c7
                    rcases bifSome h with ⟨c8, h⟩ | ⟨c8, h⟩
                    · obtain rfl := Option.some.inj h
                      exact ee (stopAt 24 sch_fineD) [4] [] (p.b 56 c8)
                    · exact gg (stopAt 24 sch_fineD) [0, 1] (p.b 56 c8) (hself _ _ h)
                  · have p := p.b 52 c7
                    rcases bifSome h with ⟨c8, h⟩ | ⟨c8, h⟩
                    · have p := p.b 58 c8
                      rcases bifSome h with ⟨c9, h⟩ | ⟨c9, h⟩
                      · obtain rfl := Option.some.inj h
                        exact ee (stopAt 24 sch_fineD) [4] [] (p.b 65 c9)
                      · exact gg (stopAt 24 sch_fineD) [0, 1] (p.b 65 c9) (hself _ _ h)
                    · have p := p.b 58 c8
                      rcases bifSome h with ⟨c9, h⟩ | ⟨c9, h⟩
                      · have p := p.b 59 c9
                        rcases bifSome h with ⟨c10, h⟩ | ⟨c10, h⟩
                        · obtain rfl := Option.some.inj h
                          exact ee (stopAt 24 sch_fineD) [4] [] (p.b 65 c10)
                        · exact gg (stopAt 24 sch_fineD) [0, 1] (p.b 65 c10) (hself _ _ h)
                      · obtain rfl := Option.some.inj h
                        exact ee (stopAt 24 sch_fineD) [4] [] (p.b 59 c9)
   case l2 =>
    have h : fineD_l2 n (fineD_m q c_ n) q c_ = some r := h
    show TrK _ _ _ _ _ _ _ _ _
    unfold fineD_l2 at h
    obtain ⟨⟨g0, g1⟩, h⟩ := guardSome h
    obtain ⟨y1, hy1, h⟩ := bindSome h
    have p := H0.g s_fineD_24 |>.g g0 |>.w 74 g1 |>.c (sb [.msl 2 1 0 2, .i 0, .i ((IntKind.i64.wrap (1 * 2 ^ (q.symbols).toNat)) - 1)] (pzwithin_ok hy1) [some (.cells (probC q)), some (.cells (consC c_)), some (.ints ([c_.set, c_.other] : List Int))] ⟨Snap.ints rfl (Eq.refl 2), Snap.plain (by kernel_rfl), Snap.plain (by kernel_rfl), trivial⟩)
    rcases bifSome h with ⟨c0, h⟩ | ⟨c0, h⟩
    · obtain ⟨y2, hy2, h⟩ := bindSome h
      have p := p.b 75 c0 |>.c (sb [.msl 3 1 0 2, .i 0, .i 65536] (pzwithin_ok hy2) (hp_fineD_0 q c_) ⟨Snap.ints rfl (Eq.refl 2), Snap.plain (by kernel_rfl), Snap.plain (by kernel_rfl), trivial⟩)
      rcases bifSome h with ⟨c1, h⟩ | ⟨c1, h⟩
      · have p := p.b 82 c1
        rcases bifSome h with ⟨c2, h⟩ | ⟨c2, h⟩
        · obtain ⟨y3, hy3, h⟩ := bindSome h
          obtain rfl := Option.some.inj h
          exact ee sch_fineD [4] [] (p.b 88 c2 |>.c (fb (pzwithin_ok hy3) (hp_fineD_0 q c_)))
        · obtain rfl := Option.some.inj h
          exact ee sch_fineD [4] [] (p.b 88 c2)
      · obtain rfl := Option.some.inj h
        exact ee sch_fineD [4] [] (p.b 82 c1)
    · obtain rfl := Option.some.inj h
      exact ee sch_fineD [4] [] (p.b 75 c0)
theorem fineD_ok {n : Nat} {q : ProbD} {c_ : ConsD} {r : Bool} (h : fineD n q c_ = some r) : ES Tryd.prog GG 35 [.agg 5 (L1 (probC q)), .agg 9 (L1 (consC c_))] [] (.bool r) [] true := by
  refine ot Tryd.func35 fun B N => ?_
  have hself := fineD_all B N q c_ n
  unfold fineD at h
  unfold fineD_l0 at h
  exact gg (stopAt 24 sch_fineD) [0, 1, 2] H0 (en n (hself _ _ h n (Nat.le_refl _)))
def unfine_l0 (n : Nat) (c : ConsD) (q : ProbD) : Option Bool :=
  (fineD n q c).bind fun y1 =>
   some (!y1)
def unfine (n : Nat) (c : ConsD) (q : ProbD) : Option Bool := unfine_l0 n c q
theorem unfine_ok {n : Nat} {c : ConsD} {q : ProbD} {r : Bool} (h : unfine n c q = some r) : ES Tryd.prog GG 34 [.agg 9 (L1 (consC c)), .fp 5 (L1 (probC q))] [] (.bool r) [] true := by
  refine ot Tryd.func34 fun B N => ?_
  unfold unfine at h
  unfold unfine_l0 at h
  obtain ⟨y1, hy1, h⟩ := bindSome h
  cases h
  exact ee sch0 [3] [] (H0.c (fb (fineD_ok hy1) [some (.cells (consC c))]))
inductive indexUnfinePt where
  | l1 (x8 : Int)
def indexUnfine_l1 (n : Nat) (self : indexUnfinePt → Option Int) (l : List ConsD) (q : ProbD) (x8 : Int) : Option Int :=
  bif (decide (x8 < (l.length : Int))) then
   if 0 ≤ x8 ∧ x8 < (l.length : Int) then
    (unfine n (l.getD ((x8).toNat) default) q).bind fun y1 =>
     bif y1 then
      some x8
     else
      if R64 (x8 + 1) then
       self (.l1 (x8 + 1))
      else none
   else none
  else
   some (-1)
def indexUnfine_l0 (n : Nat) (self : indexUnfinePt → Option Int) (l : List ConsD) (q : ProbD) : Option Int :=
  self (.l1 0)
def indexUnfine_m (l : List ConsD) (q : ProbD) : Nat → indexUnfinePt → Option Int
  | 0, _ => none
  | n + 1, .l1 x8 => indexUnfine_l1 n (indexUnfine_m l q n) l q x8
def indexUnfine (n : Nat) (l : List ConsD) (q : ProbD) : Option Int := indexUnfine_l0 n (indexUnfine_m l q n) l q
/-- What the points stand for. -/
def indexUnfine_at (n : Nat) (B : Nat) (N : Yard Tryd.prog GG 0) (l : List ConsD) (q : ProbD) (r : Int) : indexUnfinePt → Prop
  | .l1 x8 => ∀ m0 : Nat, n ≤ m0 → TrK Tryd.prog GG Fence.wide (some B) 0 N (Fin Tryd.prog Tryd.f55 0 (.i r) []) (toN m0 (atNC (bodyC Tryd.f55) 0 [])) ⟨frm 19 [(0, .sl 9 l.length (rowE consC l)), (1, .fn 34 1 (L1 [.fp 5 (L1 (probC q))])), (7, .i (l.length : Int)), (8, .i x8)], []⟩
theorem indexUnfine_all (B : Nat) (N : Yard Tryd.prog GG 0) (l : List ConsD) (q : ProbD) : ∀ (n : Nat) (pt : indexUnfinePt) (r : Int), indexUnfine_m l q n pt = some r → indexUnfine_at n B N l q r pt := by
  intro n; induction n with
  | zero => intro _ _ h; cases h
  | succ n hself =>
   intro pt r h
   cases pt
   case l1 x8 =>
    have h : indexUnfine_l1 n (indexUnfine_m l q n) l q x8 = some r := h
    intro m0 hm0
    refine rd hm0 fun m0 hm0 => ?_
    unfold indexUnfine_l1 at h
    rcases bifSome h with ⟨c0, h⟩ | ⟨c0, h⟩
    · obtain ⟨g0, h⟩ := guardSome h
      obtain ⟨y1, hy1, h⟩ := bindSome h
      have p := H0.b 9 c0 |>.g g0 |>.c (fb (unfine_ok hy1) [])
      rcases bifSome h with ⟨c1, h⟩ | ⟨c1, h⟩
      · obtain rfl := Option.some.inj h
        exact ee sch0 [4] [] (p.b 16 c1)
      · obtain ⟨g1, h⟩ := guardSome h
        exact gg sch0 [] (p.b 16 c1 |>.w 18 g1) (hself _ _ h m0 hm0)
    · cases h
      exact ee sch0 [4] [] (H0.b 9 c0)
theorem indexUnfine_ok {n : Nat} {l : List ConsD} {q : ProbD} {r : Int} (h : indexUnfine n l q = some r) : ES Tryd.prog GG 55 [.sl 9 l.length (rowE consC l), .fn 34 1 (L1 [.fp 5 (L1 (probC q))])] [] (.i r) [] true := by
  refine ot Tryd.func55 fun B N => ?_
  have hself := indexUnfine_all B N l q n
  unfold indexUnfine at h
  unfold indexUnfine_l0 at h
  exact gg sch0 [] H0 (en n (hself _ _ h n (Nat.le_refl _)))
def containsUnfine_l0 (n : Nat) (l : List ConsD) (q : ProbD) : Option Bool :=
  (indexUnfine n l q).bind fun y1 =>
   some (decide (y1 ≥ 0))
def containsUnfine (n : Nat) (l : List ConsD) (q : ProbD) : Option Bool := containsUnfine_l0 n l q
theorem containsUnfine_ok {n : Nat} {l : List ConsD} {q : ProbD} {r : Bool} (h : containsUnfine n l q = some r) : ES Tryd.prog GG 33 [.sl 9 l.length (rowE consC l), .fn 34 1 (L1 [.fp 5 (L1 (probC q))])] [] (.bool r) [] true := by
  refine ot Tryd.func33 fun B N => ?_
  unfold containsUnfine at h
  unfold containsUnfine_l0 at h
  obtain ⟨y1, hy1, h⟩ := bindSome h
  cases h
  exact ee sch0 [4] [] (H0.c (fb (indexUnfine_ok hy1) []))
def valid_l0 (n : Nat) (q : ProbD) : Option Int :=
  bif (decide (q.cells < 1)) then
   some 191
  else
   bif (decide (q.cells > 256)) then
    some 191
   else
    bif (decide (q.symbols < 1)) then
     some 191
    else
     bif (decide (q.symbols > 16)) then
      some 191
     else
      bif ((q.values.length : Int) != q.symbols) then
       some 191
      else
       (pzwithin n q.values 0 99).bind fun y1 =>
        bif (!y1) then
         some 191
        else
         bif ((q.nbrs.length : Int) != q.cells) then
          some 191
         else
          (gcheck n q.nbrs).bind fun y2 =>
           bif (y2 != 0) then
            some 191
           else
            bif (decide ((q.cons.length : Int) > 4096)) then
             some 191
            else
             (containsUnfine n q.cons q).bind fun y3 =>
              bif y3 then
               some 191
              else
               some 0
def valid (n : Nat) (q : ProbD) : Option Int := valid_l0 n q
theorem valid_ok {n : Nat} {q : ProbD} {r : Int} (h : valid n q = some r) : ES Tryd.prog GG 22 [.agg 5 (L1 (probC q))] [] (.i r) [] true := by
  refine ot Tryd.func22 fun B N => ?_
  unfold valid at h
  unfold valid_l0 at h
  rcases bifSome h with ⟨c0, h⟩ | ⟨c0, h⟩
  · obtain rfl := Option.some.inj h
    exact ee sch0 [2] [] (H0.b 5 c0)
  · have p := H0.b 5 c0
    rcases bifSome h with ⟨c1, h⟩ | ⟨c1, h⟩
    · obtain rfl := Option.some.inj h
      exact ee sch0 [2] [] (p.b 9 c1)
    · have p := p.b 9 c1
      rcases bifSome h with ⟨c2, h⟩ | ⟨c2, h⟩
      · obtain rfl := Option.some.inj h
        exact ee sch0 [2] [] (p.b 14 c2)
      · have p := p.b 14 c2
        rcases bifSome h with ⟨c3, h⟩ | ⟨c3, h⟩
        · obtain rfl := Option.some.inj h
          exact ee sch0 [2] [] (p.b 19 c3)
        · have p := p.b 19 c3
          rcases bifSome h with ⟨c4, h⟩ | ⟨c4, h⟩
          · obtain rfl := Option.some.inj h
            exact ee sch0 [2] [] (p.b 27 c4)
          · obtain ⟨y1, hy1, h⟩ := bindSome h
            have p := p.b 27 c4 |>.c (fb (pzwithin_ok hy1) [some (.cells (probC q))])
            rcases bifSome h with ⟨c5, h⟩ | ⟨c5, h⟩
            · obtain rfl := Option.some.inj h
              exact ee sch0 [2] [] (p.b 33 c5)
            · have p := p.b 33 c5
              rcases bifSome h with ⟨c6, h⟩ | ⟨c6, h⟩
              · obtain rfl := Option.some.inj h
                exact ee sch0 [2] [] (p.b 40 c6)
              · obtain ⟨y2, hy2, h⟩ := bindSome h
                have p := p.b 40 c6 |>.c (fb (gcheck_ok hy2) [some (.cells (probC q))])
                rcases bifSome h with ⟨c7, h⟩ | ⟨c7, h⟩
                · obtain rfl := Option.some.inj h
                  exact ee sch0 [2] [] (p.b 45 c7)
                · have p := p.b 45 c7
                  rcases bifSome h with ⟨c8, h⟩ | ⟨c8, h⟩
                  · obtain rfl := Option.some.inj h
                    exact ee sch0 [2] [] (p.b 51 c8)
                  · obtain ⟨y3, hy3, h⟩ := bindSome h
                    have p := p.b 51 c8 |>.c (sb [.sl 9 q.cons.length (rowE consC q.cons), .fn 34 1 (L1 [.ref 0 0])] (containsUnfine_ok hy3) [some (.cells (probC q))] ⟨Snap.plain (by kernel_rfl), (Snap.fnL (l := [.ref 0 0]) (l0 := [.fp 5 (L1 (probC q))]) ⟨(Snap.refL (l := (probC q)) (l0 := (probC q)) rfl ⟨Snap.plain (by kernel_rfl), Snap.plain (by kernel_rfl), Snap.plain (by kernel_rfl), Snap.plain (by kernel_rfl), Snap.plain (by kernel_rfl), trivial⟩), trivial⟩), trivial⟩)
                    rcases bifSome h with ⟨c9, h⟩ | ⟨c9, h⟩
                    · obtain rfl := Option.some.inj h
                      exact ee sch0 [2] [] (p.b 56 c9)
                    · obtain rfl := Option.some.inj h
                      exact ee sch0 [2] [] (p.b 56 c9)
def levelP_l0 (n : Nat) (q : ProbD) (i : Int) : Option (Int × Int) :=
  (valid n q).bind fun y1 =>
   bif (y1 != 0) then
    some (0, y1)
   else
    bif (decide (i < 0)) then
     some (0, 260)
    else
     bif (decide (i ≥ (q.cons.length : Int))) then
      some (0, 260)
     else
      if (0 ≤ i ∧ i < (q.cons.length : Int)) ∧ ((0 : Int) ≤ ((q.cons.getD ((i).toNat) default).kind) ∧ ((q.cons.getD ((i).toNat) default).kind) < ((10 : Nat) : Int)) then
       some (([0, 1, 1, 2, 2, 3, 1, 1, 4, 4] : List Int).getD ((q.cons.getD ((i).toNat) default).kind).toNat 0, 0)
      else none
def levelP (n : Nat) (q : ProbD) (i : Int) : Option (Int × Int) := levelP_l0 n q i
theorem levelP_ok {n : Nat} {q : ProbD} {i : Int} {r : Int × Int} (h : levelP n q i = some r) : ES Tryd.prog GG 9 [.agg 5 (L1 (probC q)), .i i] [] (.tup 2 (L1 [.i r.1, .i r.2])) [] true := by
  refine ot Tryd.func9 fun B N => ?_
  unfold levelP at h
  unfold levelP_l0 at h
  obtain ⟨y1, hy1, h⟩ := bindSome h
  have p := H0.c (fb (valid_ok hy1) [some (.cells (probC q))])
  rcases bifSome h with ⟨c0, h⟩ | ⟨c0, h⟩
  · cases h
    exact ee sch0 [4, 5] [] (p.b 10 c0)
  · have p := p.b 10 c0
    rcases bifSome h with ⟨c1, h⟩ | ⟨c1, h⟩
    · cases h
      exact ee sch0 [4, 5] [] (p.b 13 c1)
    · have p := p.b 13 c1
      rcases bifSome h with ⟨c2, h⟩ | ⟨c2, h⟩
      · cases h
        exact ee sch0 [4, 5] [] (p.b 19 c2)
      · obtain ⟨⟨g0, g1⟩, h⟩ := guardSome h
        cases h
        exact ee sch0 [4, 5] [] (p.b 19 c2 |>.g g0 |>.g g1 |>.o 28 (DLe.ixI [0, 1, 1, 2, 2, 3, 1, 1, 4, 4] rfl g1))
def few_l0 (n : Nat) (q : ProbD) (pos : List Int) : Option Bool :=
  (fewProblem n q).bind fun y1 =>
   bif y1 then
    some (decide ((pos.length : Int) ≤ 20))
   else
    some false
def few (n : Nat) (q : ProbD) (pos : List Int) : Option Bool := few_l0 n q pos
theorem few_ok {n : Nat} {q : ProbD} {pos : List Int} {r : Bool} (h : few n q pos = some r) : ES Tryd.prog GG 8 [.agg 5 (L1 (probC q)), .ints pos] [] (.bool r) [] true := by
  refine ot Tryd.func8 fun B N => ?_
  unfold few at h
  unfold few_l0 at h
  obtain ⟨y1, hy1, h⟩ := bindSome h
  have p := H0.c (fb (fewProblem_ok hy1) [some (.cells (probC q))])
  rcases bifSome h with ⟨c0, h⟩ | ⟨c0, h⟩
  · cases h
    exact ee sch0 [4] [] (p.b 6 c0)
  · obtain rfl := Option.some.inj h
    exact ee sch0 [4] [] (p.b 6 c0)
end Go.Proofs.YtekkngkphejfcaaDoor
namespace Go.Proofs.YtekkngkphejfcaaDoor
def inRng (lo hi : Int) (n : Int) : Bool := decide (lo ≤ n) && decide (n ≤ hi)
def within (xs : List Int) (lo hi : Int) : Bool := xs.all (inRng lo hi)
def nodeOk (g : List (List Int)) (i : Nat) (l : List Int) (k : Nat) : Bool :=
  let n := l.getD k 0
  decide (0 ≤ n) && decide (n < g.length) && (n != i) && (!decide (0 < k) || decide (l.getD (k-1) 0 < n)) && (g.getD n.toNat []).contains (i : Int)
def rowOk (g : List (List Int)) (i : Nat) (l : List Int) : Bool := (List.range l.length).all (nodeOk g i l)
def graphOk (g : List (List Int)) : Bool := decide (g.length ≤ 256) && (List.range g.length).all fun i => rowOk g i (g.getD i [])
def cellOk (n kind : Int) (cells : List Int) (i : Nat) : Bool :=
  let x := cells.getD i 0
  decide (0 ≤ x) && decide (x < n) && !(cells.take i).contains x && (!decide (8 ≤ kind) || x == (i : Int))
def cellsOk (n kind : Int) (cells : List Int) : Bool := (List.range cells.length).all (cellOk n kind cells)
def kindOk (n kind : Int) (len : Nat) : Bool :=
  (decide (1 ≤ kind) && decide (kind ≤ 5)) || ((kind == 6 || kind == 7) && len == 2) || ((kind == 8 || kind == 9) && (len : Int) == n)
def fineB (q : ProbD) (c : ConsD) : Bool :=
  cellsOk q.cells c.kind c.cells && kindOk q.cells c.kind c.cells.length &&
  within [c.set, c.other] 0 (2 ^ q.symbols.toNat - 1) && within [c.lo, c.hi] 0 65536 && decide (c.runs.length ≤ 8) && within c.runs 1 256
def nodupB (l : List Int) : Bool := (List.range l.length).all fun i => !(l.take i).contains (l.getD i 0)
theorem nodup_le : ∀ (n : Nat) (l : List Int), l.Nodup → (∀ x ∈ l, 0 ≤ x ∧ x < (n : Int)) → l.length ≤ n
  | 0, l, _, h => by
    cases l with
    | nil => simp
    | cons a l => have := h a (by simp); omega
  | n + 1, l, hd, h => by
    have h1 : (l.erase (n : Int)).length ≤ n := nodup_le n _ (hd.erase _) (fun x hx => by
      have := hd.mem_erase_iff.1 hx
      have h2 := h x this.2
      have h3 := this.1
      omega)
    by_cases hm : (n : Int) ∈ l
    · have := List.length_erase_of_mem hm
      omega
    · rw [List.erase_of_not_mem hm] at h1; omega
theorem nodupB_iff {l : List Int} : nodupB l = true ↔ l.Nodup := by
  unfold nodupB List.Nodup
  rw [List.all_eq_true, List.pairwise_iff_getElem]
  constructor
  · intro h i j hi hj hij e
    have := h j (by simpa using hj)
    simp only [List.getD_eq_getElem?_getD, List.getElem?_eq_getElem hj, Option.getD_some, Bool.not_eq_true'] at this
    rw [Bool.eq_false_iff, ne_eq, List.contains_iff_mem, List.mem_take_iff_getElem] at this
    exact this ⟨i, by omega, e⟩
  · intro h i hi
    have hi' : i < l.length := by simpa using hi
    simp only [List.getD_eq_getElem?_getD, List.getElem?_eq_getElem hi', Option.getD_some, Bool.not_eq_true']
    rw [Bool.eq_false_iff, ne_eq, List.contains_iff_mem, List.mem_take_iff_getElem]
    rintro ⟨j, hj, e⟩
    exact h j i (by omega) hi' (by omega) e
theorem within_iff {l : List Int} {lo hi : Int} : within l lo hi = true ↔ ∀ x ∈ l, lo ≤ x ∧ x ≤ hi := by
  unfold within; simp [inRng]
theorem cellsOk_iff {n kind : Int} {cells : List Int} : cellsOk n kind cells = true ↔ (∀ x ∈ cells, 0 ≤ x ∧ x < n) ∧ cells.Nodup ∧ (8 ≤ kind → ∀ j, j < cells.length → cells.getD j 0 = (j : Int)) := by
  rw [← nodupB_iff]
  unfold cellsOk nodupB cellOk
  simp only [List.all_eq_true, List.mem_range, Bool.and_eq_true, decide_eq_true_eq, Bool.or_eq_true, Bool.not_eq_true', beq_iff_eq, decide_eq_false_iff_not]
  constructor
  · intro h
    refine ⟨fun x hx => ?_, fun j hj => (h j hj).1.2, fun h8 j hj => ?_⟩
    · obtain ⟨j, hj, rfl⟩ := List.getElem_of_mem hx
      have := (h j hj).1.1
      simpa [hj] using this
    · rcases (h j hj).2 with h' | h'
      · exact absurd h8 h'
      · exact h'
  · rintro ⟨h1, h2, h3⟩ j hj
    have hx := h1 _ (List.getElem_mem hj)
    refine ⟨⟨by simpa [hj] using hx, h2 j hj⟩, ?_⟩
    by_cases h8 : 8 ≤ kind
    · exact .inr (h3 h8 j hj)
    · exact .inl h8
def validB (q : ProbD) : Bool :=
  decide (1 ≤ q.cells) && decide (q.cells ≤ 256) && decide (1 ≤ q.symbols) && decide (q.symbols ≤ 16) && ((q.values.length : Int) == q.symbols) && within q.values 0 99 &&
  ((q.nbrs.length : Int) == q.cells) && graphOk q.nbrs && decide (q.cons.length ≤ 4096) && q.cons.all (fineB q)
def lvl (kind : Int) : Int := if kind = 3 ∨ kind = 4 then 2 else if kind = 5 then 3 else if kind = 8 ∨ kind = 9 then 4 else 1
/-- Level's answer: a level and an error. -/
def levelM (q : ProbD) (i : Int) : Int × Int :=
  if validB q = false then (0, 191) else if 0 ≤ i ∧ i < q.cons.length then (lvl ((q.cons.getD i.toNat default).kind), 0) else (0, 260)
theorem validB_parts {q : ProbD} (h : validB q = true) : (1 ≤ q.cells ∧ q.cells ≤ 256) ∧ (1 ≤ q.symbols ∧ q.symbols ≤ 16) ∧ ((q.values.length : Int) = q.symbols ∧ within q.values 0 99 = true) ∧
    ((q.nbrs.length : Int) = q.cells ∧ graphOk q.nbrs = true) ∧ q.cons.length ≤ 4096 ∧ ∀ c ∈ q.cons, fineB q c = true := by
  unfold validB at h
  simp only [Bool.and_eq_true, decide_eq_true_eq, beq_iff_eq, List.all_eq_true] at h
  obtain ⟨⟨⟨⟨⟨⟨⟨⟨⟨h1, h2⟩, h3⟩, h4⟩, h5⟩, h6⟩, h7⟩, h8⟩, h9⟩, h10⟩ := h
  exact ⟨⟨h1, h2⟩, ⟨h3, h4⟩, ⟨h5, h6⟩, ⟨h7, h8⟩, h9, h10⟩
theorem kind_of_fine {q : ProbD} {c : ConsD} (h : fineB q c = true) : kindOk q.cells c.kind c.cells.length = true := by
  unfold fineB at h; simp only [Bool.and_eq_true] at h; exact h.1.1.1.1.2
theorem kind_range {n kind : Int} {len : Nat} (h : kindOk n kind len = true) : 1 ≤ kind ∧ kind ≤ 9 := by
  unfold kindOk at h; simp at h; omega
theorem kind_cases {k : Int} (h : 1 ≤ k ∧ k ≤ 9) : k = 1 ∨ k = 2 ∨ k = 3 ∨ k = 4 ∨ k = 5 ∨ k = 6 ∨ k = 7 ∨ k = 8 ∨ k = 9 := by omega
end Go.Proofs.YtekkngkphejfcaaDoor
namespace Go.Proofs.YtekkngkphejfcaaDoor
open Go.RowKit
/-- A loop over an index: what it answers first, or what follows behind the last round. -/
theorem scan_ok {R : Type} (m : Nat → Int → Option R) (len N0 : Nat) (B : Nat → Option R) (h0 : ∀ (n i : Nat), N0 ≤ n → i < len → m (n + 1) (i : Int) = (B i).or (m n ((i : Int) + 1))) :
    ∀ (k i n : Nat), i + k = len → N0 ≤ n → m (n + k) (i : Int) = ((List.range' i k).findSome? B).or (m n (len : Int))
  | 0, i, n, h, hn => by
    have : i = len := by omega
    subst this; rfl
  | k + 1, i, n, h, hn => by
    show m (n + k + 1) (i : Int) = _
    rw [h0 (n + k) i (by omega) (by omega), List.range'_succ, List.findSome?_cons]
    cases B i with
    | some r => rfl
    | none =>
      have := scan_ok m len N0 B h0 k (i + 1) n (by omega) hn
      rw [← this]
      simp
theorem scan0 {R : Type} (m : Nat → Int → Option R) (len N0 : Nat) (B : Nat → Option R) (h0 : ∀ (n i : Nat), N0 ≤ n → i < len → m (n + 1) (i : Int) = (B i).or (m n ((i : Int) + 1))) {n : Nat} (hn : N0 + len ≤ n) :
    m n 0 = ((List.range len).findSome? B).or (m (n - len) (len : Int)) := by
  have := scan_ok m len N0 B h0 len 0 (n - len) (by omega) (by omega)
  rw [Nat.sub_add_cancel (by omega)] at this
  rw [List.range_eq_range']
  exact this
/-- Loops that answer one thing where a test fails. -/
theorem find_all {R : Type} {l : List Nat} {p : Nat → Bool} {r : R} : (l.findSome? fun i => if p i then none else some r) = if l.all p then none else some r := by
  induction l with
  | nil => rfl
  | cons a l ih =>
    rw [List.findSome?_cons, List.all_cons]
    cases hp : p a
    · simp
    · simp [ih]
theorem range_getD_all {α : Type} {l : List α} {d : α} {p : α → Bool} : ((List.range l.length).all fun i => p (l.getD i d)) = l.all p := by
  rw [Bool.eq_iff_iff, List.all_eq_true, List.all_eq_true]
  constructor
  · intro h x hx
    obtain ⟨i, hi, rfl⟩ := List.getElem_of_mem hx
    have := h i (by simpa using hi)
    simpa [hi] using this
  · intro h i hi
    have hi' : i < l.length := by simpa using hi
    simp [hi', h _ (List.getElem_mem hi')]
theorem r64 {i len : Nat} (h : i < len) (hl : len ≤ LB) : R64 ((i : Int) + 1) := by rw [R64_iff]; unfold LB at hl; omega
theorem indexOut_eq {l : List Int} {lo up : Int} {n : Nat} (hl : l.length ≤ LB) (hn : l.length < n) : ∃ r : Int, indexOut n l lo up = some r ∧ (0 ≤ r ↔ within l lo up = false) := by
  unfold indexOut indexOut_l0
  have S := scan0 (fun n i => indexOut_m l lo up n (.l1 i)) l.length 0 (fun i => if inRng lo up (l.getD i 0) then none else some (i : Int)) (fun n i _ hi => ?_) (n := n) (by omega)
  · have S := S
    rw [show indexOut_m l lo up n (.l1 0) = _ from S]
    cases hf : (List.range l.length).findSome? (fun i => if inRng lo up (l.getD i 0) then none else some (i : Int)) with
    | some r =>
      refine ⟨r, rfl, ?_⟩
      obtain ⟨i, hi, hr⟩ := List.exists_of_findSome?_eq_some hf
      have hi' : i < l.length := by simpa using hi
      split at hr
      · cases hr
      · rename_i hx
        cases hr
        refine ⟨fun _ => ?_, fun _ => by omega⟩
        unfold within
        rw [List.all_eq_false]
        exact ⟨l[i], List.getElem_mem hi', by simpa [hi'] using hx⟩
    | none =>
      obtain ⟨m, hm⟩ : ∃ m, n - l.length = m + 1 := ⟨n - l.length - 1, by omega⟩
      refine ⟨-1, by rw [hm]; simp [indexOut_m, indexOut_l1], ?_⟩
      rw [List.findSome?_eq_none_iff] at hf
      have : within l lo up = true := by
        unfold within
        rw [← range_getD_all (p := inRng lo up) (d := (0 : Int)), List.all_eq_true]
        intro i hi
        have := hf i hi
        cases hc : inRng lo up (l.getD i 0) with
        | true => rfl
        | false => rw [hc] at this; simp at this
      simp [this]
  · have h1 : (i : Int) < (l.length : Int) := by omega
    have h2 := r64 hi hl
    simp only [indexOut_m, indexOut_l1, wiOut, wiOut_l0, h1, h2, decide_true, cond_true, Int.natCast_nonneg, and_self, if_true, Int.toNat_natCast, inRng]
    obtain ⟨x, hg⟩ : ∃ y, l.getD i 0 = y := ⟨_, rfl⟩
    simp only [hg]
    by_cases a : x < lo
    · have : ¬ lo ≤ x := by omega
      simp [a, this]
    · have a' : lo ≤ x := by omega
      by_cases b : up < x
      · have : ¬ x ≤ up := by omega
        simp [a, b, a', this]
      · have b' : x ≤ up := by omega
        simp [a, b, a', b']
theorem pzwithin_eq {l : List Int} {lo up : Int} {n : Nat} (hl : l.length ≤ LB) (hn : l.length < n) : pzwithin n l lo up = some (within l lo up) := by
  obtain ⟨r, h1, h2⟩ := indexOut_eq (lo := lo) (up := up) hl hn
  unfold pzwithin pzwithin_l0 containsOut containsOut_l0
  rw [h1]
  cases hw : within l lo up with
  | true => have : ¬ 0 ≤ r := fun h => by rw [h2.1 h] at hw; cases hw
            simp [this]
  | false => have : 0 ≤ r := h2.2 hw
             simp [this]
theorem containsI_eq {l : List Int} {x : Int} {n : Nat} (hl : l.length ≤ LB) (hn : l.length < n) : containsI n l x = some (l.contains x) := by
  have : ∃ r : Int, indexI n l x = some r ∧ (0 ≤ r ↔ l.contains x = true) := by
    unfold indexI indexI_l0
    have S := scan0 (fun n i => indexI_m l x n (.l1 i)) l.length 0 (fun i => if (x != l.getD i 0) then none else some (i : Int)) (fun n i _ hi => ?_) (n := n) (by omega)
    · rw [show indexI_m l x n (.l1 0) = _ from S]
      cases hf : (List.range l.length).findSome? (fun i => if (x != l.getD i 0) then none else some (i : Int)) with
      | some r =>
        refine ⟨r, rfl, ?_⟩
        obtain ⟨i, hi, hr⟩ := List.exists_of_findSome?_eq_some hf
        have hi' : i < l.length := by simpa using hi
        split at hr
        · cases hr
        · rename_i hx
          cases hr
          refine ⟨fun _ => ?_, fun _ => by omega⟩
          have : x = l[i] := by simpa [hi'] using hx
          rw [this]
          simp
      | none =>
        obtain ⟨m, hm⟩ : ∃ m, n - l.length = m + 1 := ⟨n - l.length - 1, by omega⟩
        refine ⟨-1, by rw [hm]; simp [indexI_m, indexI_l1], ?_⟩
        rw [List.findSome?_eq_none_iff] at hf
        have : l.contains x = false := by
          rw [Bool.eq_false_iff]
          intro h
          obtain ⟨i, hi, e⟩ := List.getElem_of_mem (by simpa using h : x ∈ l)
          have := hf i (by simpa using hi)
          simp [hi, e] at this
        rw [this]
        simp
    · have h1 : (i : Int) < (l.length : Int) := by omega
      have h2 := r64 hi hl
      simp only [indexI_m, indexI_l1, h1, h2, decide_true, cond_true, Int.natCast_nonneg, and_self, if_true, Int.toNat_natCast]
      obtain ⟨y, hg⟩ : ∃ y, l.getD i 0 = y := ⟨_, rfl⟩
      simp only [hg]
      by_cases a : x = y
      · simp [a]
      · have : (x == y) = false := by simp [a]
        simp [this, a]
  obtain ⟨r, h1, h2⟩ := this
  unfold containsI containsI_l0
  rw [h1]
  by_cases h : 0 ≤ r
  · have := h2.1 h
    simp only [Option.bind_some]
    rw [this]
    simp [h]
  · have : l.contains x = false := by rw [Bool.eq_false_iff]; exact fun hc => h (h2.2 hc)
    simp only [Option.bind_some]
    rw [this]
    simp; omega
end Go.Proofs.YtekkngkphejfcaaDoor
namespace Go.Proofs.YtekkngkphejfcaaDoor
open Go.RowKit
def wid (g : List (List Int)) : Nat := (g.map fun r => r.length + 2).sum
theorem wid_mem : ∀ {g : List (List Int)} {r : List Int}, r ∈ g → r.length + 2 ≤ wid g
  | [], _, h => by cases h
  | a :: g, r, h => by
    simp only [wid, List.map_cons, List.sum_cons]
    rcases List.mem_cons.1 h with rfl | h
    · omega
    · have := wid_mem h
      unfold wid at this; omega
theorem wid_drop {g : List (List Int)} {v : Nat} (hv : v < g.length) : wid (g.drop v) = (g.getD v []).length + 2 + wid (g.drop (v + 1)) := by
  rw [List.drop_eq_getElem_cons hv]
  simp only [wid, List.map_cons, List.sum_cons, List.getD_eq_getElem?_getD, List.getElem?_eq_getElem hv, Option.getD_some]
theorem getD_mem {g : List (List Int)} {v : Nat} (hv : v < g.length) : g.getD v [] ∈ g := by
  rw [List.getD_eq_getElem?_getD, List.getElem?_eq_getElem hv]; exact List.getElem_mem hv
section
variable {g : List (List Int)} {v j n : Nat}
theorem node_code {R : Type} (next bad : R) (c : Bool → R) (hc : c true = next) (hc2 : c false = bad) (hv : v < g.length) (hj : j < (g.getD v []).length) :
    (if nodeOk g v (g.getD v []) j then next else bad) =
      (if (g.getD v []).getD j 0 < 0 then bad else if (g.getD v []).getD j 0 ≥ (g.length : Int) then bad else if (g.getD v []).getD j 0 = (v : Int) then bad else
        if 0 < j then (if (g.getD v []).getD (j - 1) 0 ≥ (g.getD v []).getD j 0 then bad else c ((g.getD ((g.getD v []).getD j 0).toNat []).contains (v : Int)))
        else c ((g.getD ((g.getD v []).getD j 0).toNat []).contains (v : Int))) := by
  unfold nodeOk
  obtain ⟨x, hx⟩ : ∃ x, (g.getD v []).getD j 0 = x := ⟨_, rfl⟩
  obtain ⟨y, hy⟩ : ∃ y, (g.getD v []).getD (j - 1) 0 = y := ⟨_, rfl⟩
  simp only [hx, hy]
  by_cases a : x < 0
  · have : ¬ 0 ≤ x := by omega
    simp [a, this]
  · have a' : 0 ≤ x := by omega
    by_cases b : x ≥ (g.length : Int)
    · have : ¬ x < (g.length : Int) := by omega
      simp [a, b, this]
    · have b' : x < (g.length : Int) := by omega
      by_cases d : x = (v : Int)
      · simp [a, b, d]
      · have d' : (x != (v : Int)) = true := by simp [d]
        cases hcc : (g.getD x.toNat []).contains (v : Int) with
        | true =>
          by_cases e : 0 < j
          · by_cases f : y ≥ x
            · have : ¬ y < x := by omega
              simp [a, b, d, d', e, f, this, a', b']
            · have f' : y < x := by omega
              simp [a, b, d, d', e, f, f', a', b', hc]
          · simp [a, b, d, d', e, a', b', hc]
        | false =>
          by_cases e : 0 < j
          · by_cases f : y ≥ x
            · have : ¬ y < x := by omega
              simp [a, b, d, d', e, f, this, a', b']
            · have f' : y < x := by omega
              simp [a, b, d, d', e, f, f', a', b', hc2]
          · simp [a, b, d, d', e, a', b', hc2]
theorem r64m {j len : Nat} (h : j < len) (hl : len ≤ LB) : R64 ((j : Int) - 1) := by rw [R64_iff]; unfold LB at hl; omega
theorem pred_ok {j len : Nat} (h : 0 < j) (h2 : j < len) : ((0 : Int) ≤ (j : Int) - 1 ∧ (j : Int) - 1 < (len : Int)) ∧ ((j : Int) - 1).toNat = j - 1 ∧ (j : Int) > 0 := by omega
theorem gc_step {self : gcheckPt → Option Int} {row : List Int} (hrow : row = g.getD v []) (hv : v < g.length) (hg : g.length ≤ 256) (hj : j < (g.getD v []).length) (hr : ∀ r ∈ g, r.length ≤ LB) (hn : ∀ r ∈ g, r.length < n) :
    gcheck_l2 n self g (v : Int) row (v : Int) row (row.length : Int) (j : Int) = (if nodeOk g v (g.getD v []) j then none else some (120 : Int)).or (self (.l2 (v : Int) row (v : Int) row (row.length : Int) ((j : Int) + 1))) := by
  subst hrow
  have hlen := hr _ (getD_mem hv)
  have h1 : (v : Int) < (g.length : Int) := by omega
  have h2 : (j : Int) < ((g.getD v []).length : Int) := by omega
  have h3 := r64 hj hlen
  obtain ⟨NX, hNX⟩ : ∃ NX, self (.l2 (v : Int) (g.getD v []) (v : Int) (g.getD v []) ((g.getD v []).length : Int) ((j : Int) + 1)) = NX := ⟨_, rfl⟩
  have key := node_code (g := g) (v := v) (j := j) NX (some (120 : Int)) (fun b => bif b then NX else some 120) rfl rfl hv hj
  have e1 : ((if nodeOk g v (g.getD v []) j then none else some (120 : Int)).or NX) = (if nodeOk g v (g.getD v []) j then NX else some 120) := by
    cases nodeOk g v (g.getD v []) j <;> rfl
  rw [hNX, e1, key]
  simp only [gcheck_l2, h1, h2, h3, decide_true, cond_true, Int.natCast_nonneg, and_self, if_true, Int.toNat_natCast, hNX]
  obtain ⟨x, hx⟩ : ∃ x, (g.getD v []).getD j 0 = x := ⟨_, rfl⟩
  simp only [hx]
  by_cases a : x < 0
  · simp [a]
  by_cases b : x ≥ (g.length : Int)
  · simp [a, b]
  by_cases d : x = (v : Int)
  · simp [a, b, d]
  have d' : (x == (v : Int)) = false := by simp [d]
  have hxm : g.getD x.toNat [] ∈ g := getD_mem (by omega)
  have hh : containsI n (g.getD x.toNat []) (v : Int) = some ((g.getD x.toNat []).contains (v : Int)) := containsI_eq (hr _ hxm) (hn _ hxm)
  have hxr : 0 ≤ x ∧ x < (g.length : Int) := by omega
  have fin : ((containsI n (g.getD x.toNat []) (v : Int)).bind fun y1 => bif (!y1) then some (120 : Int) else NX) = (bif (g.getD x.toNat []).contains (v : Int) then NX else some 120) := by
    rw [hh]
    cases (g.getD x.toNat []).contains (v : Int) <;> rfl
  by_cases e : 0 < j
  · have h4 : R64 ((j : Int) - 1) ∧ ((0 : Int) ≤ (j : Int) - 1 ∧ (j : Int) - 1 < ((g.getD v []).length : Int)) := ⟨r64m hj hlen, (pred_ok e hj).1⟩
    have h5 := (pred_ok e hj).2.1
    have e' := (pred_ok e hj).2.2
    simp only [e', h4, h5, e, hxr, d', decide_true, cond_true, cond_false, if_true, decide_eq_false a, decide_eq_false b, and_self, if_neg a, if_neg b, if_neg d, fin]
    by_cases f : (g.getD v []).getD (j - 1) 0 ≥ x
    · simp only [f, decide_true, cond_true, if_true]
    · simp only [decide_eq_false f, cond_false, if_neg f]
  · have e' : ¬ (j : Int) > 0 := by omega
    simp only [hxr, d', cond_false, if_true, decide_eq_false a, decide_eq_false b, decide_eq_false e', and_self, if_neg a, if_neg b, if_neg d, if_neg e, fin]
end
/-- The rows from one on. -/
theorem rows_from {g : List (List Int)} {v : Nat} (hv : v < g.length) : ((List.range' v (g.length - v)).all fun i => rowOk g i (g.getD i [])) = (rowOk g v (g.getD v []) && (List.range' (v + 1) (g.length - (v + 1))).all fun i => rowOk g i (g.getD i [])) := by
  have : g.length - v = g.length - (v + 1) + 1 := by omega
  rw [this, List.range'_succ, List.all_cons]
theorem gc_rows {g : List (List Int)} (hg : g.length ≤ 256) (hr : ∀ r ∈ g, r.length ≤ LB) : ∀ (k v n : Nat), v + k = g.length → wid (g.drop v) + wid g + 1 ≤ n → gcheck_m g n (.l1 (v : Int)) = some (errOf ((List.range' v (g.length - v)).all fun i => rowOk g i (g.getD i [])) 120)
  | 0, v, n, hv, hn => by
    have : v = g.length := by omega
    subst this
    obtain ⟨m, rfl⟩ : ∃ m, n = m + 1 := ⟨n - 1, by omega⟩
    simp [gcheck_m, gcheck_l1, errOf]
  | k + 1, v, n, hv, hn => by
    have hv' : v < g.length := by omega
    rw [wid_drop hv'] at hn
    have hm := wid_mem (getD_mem hv')
    obtain ⟨m, rfl⟩ : ∃ m, n = m + 1 := ⟨n - 1, by omega⟩
    have h1 : (v : Int) < (g.length : Int) := by omega
    have e1 : gcheck_m g (m + 1) (.l1 (v : Int)) = gcheck_m g m (.l2 (v : Int) (g.getD v []) (v : Int) (g.getD v []) ((g.getD v []).length : Int) 0) := by
      simp only [gcheck_m, gcheck_l1, h1, decide_true, cond_true, Int.natCast_nonneg, and_self, if_true, Int.toNat_natCast]
    rw [e1]
    have S := scan0 (fun n i => gcheck_m g n (.l2 (v : Int) (g.getD v []) (v : Int) (g.getD v []) ((g.getD v []).length : Int) i)) (g.getD v []).length (wid g) (fun j => if nodeOk g v (g.getD v []) j then none else some 120) (fun n' j hn0 hj => gc_step (n := n') rfl hv' hg hj hr fun r hr' => by have := wid_mem hr'; omega) (n := m) (by omega)
    refine S.trans ?_
    rw [find_all, rows_from hv']
    have eR : ((List.range (g.getD v []).length).all fun i => nodeOk g v (g.getD v []) i) = rowOk g v (g.getD v []) := rfl
    rw [eR]
    cases rowOk g v (g.getD v []) with
    | false => rfl
    | true =>
      obtain ⟨m', hm'⟩ : ∃ m', m - (g.getD v []).length = m' + 1 := ⟨m - (g.getD v []).length - 1, by omega⟩
      rw [hm']
      have h2 : R64 ((v : Int) + 1) := by rw [R64_iff]; omega
      have ih := gc_rows hg hr k (v + 1) m' (by omega) (by omega)
      have h3 : ¬ (((g.getD v []).length : Int) < ((g.getD v []).length : Int)) := by omega
      simp only [if_true, gcheck_m, gcheck_l2, h2, decide_eq_false h3, cond_false, Bool.true_and]
      exact ih
theorem gcheck_eq {g : List (List Int)} {n : Nat} (hr : ∀ r ∈ g, r.length ≤ LB) (hn : 2 * wid g + 1 ≤ n) : gcheck n g = some (errOf (graphOk g) 120) := by
  unfold gcheck gcheck_l0 graphOk
  by_cases h : (g.length : Int) > 256
  · have : ¬ g.length ≤ 256 := by omega
    simp [h, this, errOf]
  · have h' : g.length ≤ 256 := by omega
    have := gc_rows h' hr g.length 0 n (by omega) (by simp; omega)
    simp only [decide_eq_false h, cond_false, decide_eq_true h', Bool.true_and]
    rw [List.range_eq_range']
    simpa using this
end Go.Proofs.YtekkngkphejfcaaDoor
namespace Go.Proofs.YtekkngkphejfcaaDoor
open Go.RowKit
theorem pow_facts {s : Int} (h1 : 1 ≤ s) (h2 : s ≤ 16) : IntKind.i64.wrap (1 * 2 ^ s.toNat) = 2 ^ s.toNat ∧ R64 ((2 : Int) ^ s.toNat - 1) ∧ ((0 : Int) ≤ s ∧ s ≤ ((IntKind.i64.bits : Nat) : Int)) := by
  obtain ⟨m, rfl⟩ := Int.eq_ofNat_of_zero_le (show 0 ≤ s by omega)
  rw [Int.toNat_natCast]
  have h : m < 17 := by omega
  refine ⟨?_, ?_, by omega, by show (m : Int) ≤ 64; omega⟩
  · revert h; clear h1 h2; revert m; decide
  · revert h; clear h1 h2; revert m; decide
section
variable {c : ConsD} {n : Nat}
def restB (sy : Int) (c : ConsD) : Bool := within [c.set, c.other] 0 (2 ^ sy.toNat - 1) && within [c.lo, c.hi] 0 65536 && decide (c.runs.length ≤ 8) && within c.runs 1 256
theorem lb2 {a b : Int} : ([a, b] : List Int).length ≤ LB := by show 2 ≤ LB; unfold LB; omega
theorem len8 {l : List Int} : (decide (((l.length : Nat) : Int) ≤ 8)) = decide (l.length ≤ 8) := by rw [Bool.eq_iff_iff]; simp; omega
theorem fine_rest {self : fineDPt → Option Bool} {q : ProbD} (h1 : 1 ≤ q.symbols) (h2 : q.symbols ≤ 16) (hr : c.runs.length ≤ LB) (hn : c.runs.length < n) (hn2 : 2 < n) : fineD_l2 n self q c = some (restB q.symbols c) := by
  obtain ⟨p1, p2, p3⟩ := pow_facts h1 h2
  unfold fineD_l2
  rw [p1, if_pos ⟨p3, p2⟩, pzwithin_eq lb2 (show 2 < n from hn2), pzwithin_eq lb2 (show 2 < n from hn2), pzwithin_eq hr hn]
  unfold restB
  rw [len8]
  cases within [c.set, c.other] 0 (2 ^ q.symbols.toNat - 1) <;> cases within [c.lo, c.hi] 0 65536 <;> cases decide (c.runs.length ≤ 8) <;> rfl
theorem fine_cell {self : fineDPt → Option Bool} {q : ProbD} (hq : q.cells ≤ 256) (hc : c.cells.length ≤ LB) {i : Nat} (hi : i < c.cells.length) {o : List Bool} (ho : o.length = 256) (hm : ∀ x : Nat, x < 256 → o.getD x false = (c.cells.take i).contains (x : Int)) :
    fineD_l1 n self q c (i : Int) o = if cellOk q.cells c.kind c.cells i then self (.l1 ((i : Int) + 1) (o.set (0 + (c.cells.getD i 0).toNat) true)) else some false := by
  have h1 : (i : Int) < (c.cells.length : Int) := by omega
  have h2 := r64 hi hc
  unfold cellOk
  obtain ⟨x, hx⟩ : ∃ x, c.cells.getD i 0 = x := ⟨_, rfl⟩
  simp only [fineD_l1, h1, h2, decide_true, cond_true, Int.natCast_nonneg, and_self, if_true, Int.toNat_natCast, hx]
  by_cases a : x < 0
  · have : ¬ 0 ≤ x := by omega
    simp [a, this]
  have a' : 0 ≤ x := by omega
  by_cases b : x ≥ q.cells
  · have : ¬ x < q.cells := by omega
    simp [a, b, this]
  have b' : x < q.cells := by omega
  have hg : ((0 : Int) ≤ x ∧ x < ((256 : Nat) : Int)) ∧ 0 + x.toNat < o.length := ⟨⟨a', by omega⟩, by omega⟩
  have hmm : o.getD (0 + x.toNat) false = (c.cells.take i).contains x := by
    rw [Nat.zero_add, hm x.toNat (by omega)]
    congr 1; omega
  simp only [hg, hmm, decide_eq_false a, decide_eq_false b, cond_false, if_true, decide_eq_true a', decide_eq_true b', Bool.true_and, and_self]
  cases (c.cells.take i).contains x with
  | true => rfl
  | false =>
    by_cases e : c.kind ≥ 8
    · have e' : 8 ≤ c.kind := e
      by_cases f : x = (i : Int)
      · have f1 : (x != (i : Int)) = false := by simp [f]
        have f2 : (x == (i : Int)) = true := by simp [f]
        simp only [e, e', f1, f2, decide_true, cond_true, cond_false, Bool.not_false, Bool.not_true, Bool.false_or, Bool.true_and, if_true]
      · have f1 : (x != (i : Int)) = true := by simp [f]
        have f2 : (x == (i : Int)) = false := by simp [f]
        simp only [e, e', f1, f2, decide_true, cond_true, cond_false, Bool.not_false, Bool.not_true, Bool.false_or, Bool.true_and, Bool.false_eq_true, if_false]
    · have e' : ¬ 8 ≤ c.kind := e
      simp only [decide_eq_false e, decide_eq_false e', decide_true, cond_false, Bool.not_false, Bool.true_or, Bool.and_self, if_true]
theorem fine_end {self : fineDPt → Option Bool} {q : ProbD} {o : List Bool} : fineD_l1 n self q c (c.cells.length : Int) o = if kindOk q.cells c.kind c.cells.length then self .l2 else some false := by
  have h1 : ¬ ((c.cells.length : Int) < (c.cells.length : Int)) := by omega
  simp only [fineD_l1, decide_eq_false h1, cond_false]
  by_cases hk : 1 ≤ c.kind ∧ c.kind ≤ 9
  · obtain ⟨k, hk0⟩ : ∃ k, c.kind = k := ⟨_, rfl⟩
    rw [hk0] at hk
    simp only [hk0]
    have e2 : (((c.cells.length : Nat) : Int) != 2) = !(c.cells.length == 2) := by rw [Bool.eq_iff_iff]; simp; omega
    have e3 : (((c.cells.length : Nat) : Int) != q.cells) = !(((c.cells.length : Nat) : Int) == q.cells) := rfl
    rcases kind_cases hk with h | h | h | h | h | h | h | h | h <;> subst h
    · rfl
    · rfl
    · rfl
    · rfl
    · rfl
    · show (bif (((c.cells.length : Nat) : Int) != 2) then some false else self .l2) = _
      rw [e2]; unfold kindOk; cases c.cells.length == 2 <;> rfl
    · show (bif (((c.cells.length : Nat) : Int) != 2) then some false else self .l2) = _
      rw [e2]; unfold kindOk; cases c.cells.length == 2 <;> rfl
    · show (bif (((c.cells.length : Nat) : Int) != q.cells) then some false else self .l2) = _
      rw [e3]; unfold kindOk; cases ((c.cells.length : Nat) : Int) == q.cells <;> rfl
    · show (bif (((c.cells.length : Nat) : Int) != q.cells) then some false else self .l2) = _
      rw [e3]; unfold kindOk; cases ((c.cells.length : Nat) : Int) == q.cells <;> rfl
  · have hno : kindOk q.cells c.kind c.cells.length = false := by
      rw [Bool.eq_false_iff]; exact fun h => hk (kind_range h)
    rw [hno]
    have z : ∀ m : Int, 1 ≤ m → m ≤ 9 → (c.kind == m) = false := fun m h1 h2 => by simp only [beq_eq_false_iff_ne]; omega
    simp [z 1, z 2, z 3, z 4, z 5, z 6, z 7, z 8, z 9]
theorem fine_loop {q : ProbD} (hq : q.cells ≤ 256) (hc : c.cells.length ≤ LB) (h1 : 1 ≤ q.symbols) (h2 : q.symbols ≤ 16) (hr : c.runs.length ≤ LB) : ∀ (k i n : Nat) (o : List Bool), i + k = c.cells.length → k + c.runs.length + 6 ≤ n → o.length = 256 → (∀ x : Nat, x < 256 → o.getD x false = (c.cells.take i).contains (x : Int)) →
    fineD_m q c n (.l1 (i : Int) o) = some ((List.range' i k).all (cellOk q.cells c.kind c.cells) && kindOk q.cells c.kind c.cells.length && restB q.symbols c)
  | 0, i, n, o, hi, hn, ho, hm => by
    have : i = c.cells.length := by omega
    subst this
    obtain ⟨m, rfl⟩ : ∃ m, n = m + 1 := ⟨n - 1, by omega⟩
    refine (fine_end (n := m)).trans ?_
    cases kindOk q.cells c.kind c.cells.length with
    | false => simp
    | true =>
      obtain ⟨m', rfl⟩ : ∃ m', m = m' + 1 := ⟨m - 1, by omega⟩
      show fineD_l2 m' (fineD_m q c m') q c = _
      rw [fine_rest h1 h2 hr (by omega) (by omega)]
      simp
  | k + 1, i, n, o, hi, hn, ho, hm => by
    obtain ⟨m, rfl⟩ : ∃ m, n = m + 1 := ⟨n - 1, by omega⟩
    refine (fine_cell (n := m) hq hc (show i < c.cells.length by omega) ho hm).trans ?_
    rw [List.range'_succ, List.all_cons]
    cases hck : cellOk q.cells c.kind c.cells i with
    | false => simp
    | true =>
      have hx : 0 ≤ c.cells.getD i 0 ∧ c.cells.getD i 0 < q.cells := by
        unfold cellOk at hck
        simp only [Bool.and_eq_true, decide_eq_true_eq] at hck
        exact ⟨hck.1.1.1, hck.1.1.2⟩
      have ih := fine_loop hq hc h1 h2 hr k (i + 1) m (o.set (0 + (c.cells.getD i 0).toNat) true) (by omega) (by omega) (by simp [ho]) (fun x hx256 => ?_)
      · simp only [if_true, Bool.true_and]
        exact ih
      · have hi' : i < c.cells.length := by omega
        rw [Nat.zero_add]
        have ht : c.cells.take (i + 1) = c.cells.take i ++ [c.cells.getD i 0] := by
          rw [List.take_add_one]
          simp [hi']
        rw [ht, List.contains_append, ← hm x hx256]
        rw [List.getD_eq_getElem?_getD, List.getElem?_set]
        by_cases e : (c.cells.getD i 0).toNat = x
        · have e2 : ((x : Nat) : Int) = c.cells.getD i 0 := by omega
          rw [if_pos e, if_pos (by omega)]
          simp [e2]
        · have e2 : ¬ ((x : Nat) : Int) = c.cells.getD i 0 := by omega
          rw [if_neg e]
          have e3 : ([c.cells.getD i 0].contains ((x : Nat) : Int)) = false := by
            simp only [List.contains_cons, List.contains_nil, Bool.or_false, beq_eq_false_iff_ne]
            exact e2
          rw [e3, Bool.or_false, List.getD_eq_getElem?_getD]
theorem fineD_eq {q : ProbD} (hq : q.cells ≤ 256) (hc : c.cells.length ≤ LB) (h1 : 1 ≤ q.symbols) (h2 : q.symbols ≤ 16) (hr : c.runs.length ≤ LB) (hn : c.cells.length + c.runs.length + 6 ≤ n) : fineD n q c = some (fineB q c) := by
  unfold fineD fineD_l0
  have := fine_loop hq hc h1 h2 hr c.cells.length 0 n (List.replicate 256 false) (by omega) (by omega) List.length_replicate (fun x hx => by rw [List.getD_eq_getElem?_getD, List.getElem?_replicate, if_pos hx]; rfl)
  refine Eq.trans this ?_
  rw [← List.range_eq_range']
  unfold fineB cellsOk restB
  simp only [Bool.and_assoc]
end
end Go.Proofs.YtekkngkphejfcaaDoor
namespace Go.Proofs.YtekkngkphejfcaaDoor
open Go.RowKit
section
variable {c : ConsD} {n : Nat} {cells sy : Int}
end
/-- How large a problem is. -/
def szC (c : ConsD) : Nat := c.cells.length * (c.cells.length + 2) + c.cells.length + c.runs.length + 7
theorem szC_def (c : ConsD) : szC c = c.cells.length * (c.cells.length + 2) + c.cells.length + c.runs.length + 7 := rfl
def szP (q : ProbD) : Nat := q.values.length + 2 * wid q.nbrs + (q.cons.map szC).sum + q.cons.length + 10
/-- Its rows are no longer than rows can be. -/
structure Fit (q : ProbD) : Prop where
  values : q.values.length ≤ LB
  nbrs : ∀ r ∈ q.nbrs, r.length ≤ LB
  cells : ∀ c ∈ q.cons, c.cells.length ≤ LB
  runs : ∀ c ∈ q.cons, c.runs.length ≤ LB
theorem szC_mem : ∀ {l : List ConsD} {c : ConsD}, c ∈ l → szC c ≤ (l.map szC).sum
  | [], _, h => by cases h
  | a :: l, c, h => by
    rw [List.map_cons, List.sum_cons]
    rcases List.mem_cons.1 h with rfl | h
    · omega
    · have := szC_mem h; omega
section
variable {q : ProbD} {n : Nat}
theorem errOf_ne' {b : Bool} : (errOf b 120 == 0) = b := by cases b <;> rfl
theorem unfine_all (hF : Fit q) (h1 : 1 ≤ q.cells) (h2 : q.cells ≤ 256) (h3 : 1 ≤ q.symbols) (h4 : q.symbols ≤ 16) (h5 : q.cons.length ≤ 4096) (hn : szP q ≤ n) : ∃ r : Int, indexUnfine n q.cons q = some r ∧ (0 ≤ r ↔ q.cons.all (fineB q) = false) := by
  unfold indexUnfine indexUnfine_l0
  have S := scan0 (fun n i => indexUnfine_m q.cons q n (.l1 i)) q.cons.length (q.cons.map szC).sum (fun i => if fineB q (q.cons.getD i default) then none else some (i : Int)) (fun n i hn0 hi => ?_) (n := n) (by unfold szP at hn; omega)
  · rw [show indexUnfine_m q.cons q n (.l1 0) = _ from S]
    cases hf : (List.range q.cons.length).findSome? (fun i => if fineB q (q.cons.getD i default) then none else some (i : Int)) with
    | some r =>
      refine ⟨r, rfl, ?_⟩
      obtain ⟨i, hi, hr⟩ := List.exists_of_findSome?_eq_some hf
      have hi' : i < q.cons.length := by simpa using hi
      split at hr
      · cases hr
      · rename_i hx
        cases hr
        refine ⟨fun _ => ?_, fun _ => by omega⟩
        rw [List.all_eq_false]
        exact ⟨q.cons[i], List.getElem_mem hi', by simpa [hi'] using hx⟩
    | none =>
      obtain ⟨m, hm⟩ : ∃ m, n - q.cons.length = m + 1 := ⟨n - q.cons.length - 1, by unfold szP at hn; omega⟩
      refine ⟨-1, by rw [hm]; simp [indexUnfine_m, indexUnfine_l1], ?_⟩
      rw [List.findSome?_eq_none_iff] at hf
      have : q.cons.all (fineB q) = true := by
        rw [← range_getD_all (p := fineB q) (d := (default : ConsD)), List.all_eq_true]
        intro i hi
        have := hf i hi
        cases hc : fineB q (q.cons.getD i default) with
        | true => rfl
        | false => rw [hc] at this; simp at this
      simp [this]
  · have hlt : (i : Int) < (q.cons.length : Int) := by omega
    have hR : R64 ((i : Int) + 1) := by rw [R64_iff]; omega
    have hmem : q.cons.getD i default ∈ q.cons := by rw [List.getD_eq_getElem?_getD, List.getElem?_eq_getElem hi]; exact List.getElem_mem hi
    have hsz := szC_mem hmem
    have hfine := fineD_eq (n := n) h2 (hF.cells _ hmem) h3 h4 (hF.runs _ hmem) (by rw [szC_def (q.cons.getD i default)] at hsz; omega)
    show indexUnfine_l1 n (indexUnfine_m q.cons q n) q.cons q (i : Int) = _
    generalize indexUnfine_m q.cons q n = self
    simp only [indexUnfine_l1, unfine, unfine_l0, hlt, hR, decide_true, cond_true, Int.natCast_nonneg, and_self, if_true, Int.toNat_natCast, hfine, Option.bind_some]
    cases fineB q (q.cons.getD i default) <;> rfl
theorem valid_eq (hF : Fit q) (hn : szP q ≤ n) : valid n q = some (errOf (validB q) 191) := by
  unfold valid valid_l0 validB
  have hv := pzwithin_eq (lo := 0) (up := 99) hF.values (show q.values.length < n by unfold szP at hn; omega)
  have hg := gcheck_eq hF.nbrs (show 2 * wid q.nbrs + 1 ≤ n by unfold szP at hn; omega)
  by_cases c1 : q.cells < 1
  · have : ¬ 1 ≤ q.cells := by omega
    simp [c1, this, errOf]
  have c1' : 1 ≤ q.cells := by omega
  by_cases c2 : q.cells > 256
  · have : ¬ q.cells ≤ 256 := by omega
    simp [c1, c2, this, errOf]
  have c2' : q.cells ≤ 256 := by omega
  by_cases c3 : q.symbols < 1
  · have : ¬ 1 ≤ q.symbols := by omega
    simp [c1, c2, c3, this, errOf]
  have c3' : 1 ≤ q.symbols := by omega
  by_cases c4 : q.symbols > 16
  · have : ¬ q.symbols ≤ 16 := by omega
    simp [c1, c2, c3, c4, this, errOf]
  have c4' : q.symbols ≤ 16 := by omega
  simp only [decide_eq_false c1, decide_eq_false c2, decide_eq_false c3, decide_eq_false c4, decide_eq_true c1', decide_eq_true c2', decide_eq_true c3', decide_eq_true c4', cond_false, Bool.true_and, hv, hg, Option.bind_some, bne, errOf_ne']
  cases ((q.values.length : Nat) : Int) == q.symbols with
  | false => rfl
  | true =>
  cases within q.values 0 99 with
  | false => rfl
  | true =>
  cases ((q.nbrs.length : Nat) : Int) == q.cells with
  | false => rfl
  | true =>
  cases graphOk q.nbrs with
  | false => rfl
  | true =>
  by_cases c5 : ((q.cons.length : Nat) : Int) > 4096
  · have : ¬ q.cons.length ≤ 4096 := by omega
    simp [c5, this, errOf]
  have c5' : q.cons.length ≤ 4096 := by omega
  obtain ⟨r, r1, r2⟩ := unfine_all hF c1' c2' c3' c4' c5' hn
  simp only [containsUnfine, containsUnfine_l0, r1, decide_eq_false c5, decide_eq_true c5', Option.bind_some, cond_false, Bool.true_and, Bool.not_true, errOf_true, beq_self_eq_true]
  cases ha : q.cons.all (fineB q) with
  | false => have : r ≥ 0 := r2.2 ha
             simp [this, errOf]
  | true => have : ¬ r ≥ 0 := fun h => by rw [r2.1 h] at ha; cases ha
            simp [this, errOf]
theorem lvl_at {k : Int} (h : 1 ≤ k ∧ k ≤ 9) : ([0, 1, 1, 2, 2, 3, 1, 1, 4, 4] : List Int).getD k.toNat 0 = lvl k := by
  rcases kind_cases h with h | h | h | h | h | h | h | h | h <;> subst h <;> rfl
theorem kind_at (hv : validB q = true) {i : Int} (h0 : 0 ≤ i) (hi : i < (q.cons.length : Int)) : 1 ≤ (q.cons.getD i.toNat default).kind ∧ (q.cons.getD i.toNat default).kind ≤ 9 := by
  have hi' : i.toNat < q.cons.length := by omega
  have hmem : q.cons.getD i.toNat default ∈ q.cons := by rw [List.getD_eq_getElem?_getD, List.getElem?_eq_getElem hi']; exact List.getElem_mem hi'
  exact kind_range (kind_of_fine ((validB_parts hv).2.2.2.2.2 _ hmem))
theorem levelP_eq (hF : Fit q) (hn : szP q ≤ n) (i : Int) : levelP n q i = some (levelM q i) := by
  unfold levelP levelP_l0 levelM
  rw [valid_eq hF hn]
  cases hv : validB q with
  | false => rfl
  | true =>
    by_cases h0 : i < 0
    · have : ¬ (0 ≤ i ∧ i < (q.cons.length : Int)) := by omega
      simp [errOf, h0, this]
    · by_cases hi : i ≥ (q.cons.length : Int)
      · have : ¬ (0 ≤ i ∧ i < (q.cons.length : Int)) := by omega
        simp [errOf, h0, hi, this]
      · have hc : 0 ≤ i ∧ i < (q.cons.length : Int) := by omega
        have hk := kind_at hv hc.1 hc.2
        have hg : (0 ≤ i ∧ i < (q.cons.length : Int)) ∧ (0 ≤ (q.cons.getD i.toNat default).kind ∧ (q.cons.getD i.toNat default).kind < ((10 : Nat) : Int)) := ⟨hc, by omega, by omega⟩
        simp only [errOf, if_true, Option.bind_some, bne_self_eq_false, cond_false, decide_eq_false h0, decide_eq_false hi, if_pos hg, if_pos hc, lvl_at hk, Bool.true_eq_false, if_false]
theorem fewProblem_some (hn : q.cons.length < n) : ∃ b, fewProblem n q = some b := by
  unfold fewProblem fewProblem_l0
  have loop : q.cons.length ≤ 120 → ∃ b, fewProblem_m q n (.l1 0) = some b := fun hl => by
    have S := scan0 (fun n i => fewProblem_m q n (.l1 i)) q.cons.length 0 (fun i => if (!(decide (((q.cons.getD i default).cells.length : Int) > 20)) && !(decide (((q.cons.getD i default).runs.length : Int) > 10))) then none else some false) (fun n i _ hi => ?_) (n := n) (by omega)
    · rw [show fewProblem_m q n (.l1 0) = _ from S]
      rw [find_all]
      split
      · obtain ⟨m, hm⟩ : ∃ m, n - q.cons.length = m + 1 := ⟨n - q.cons.length - 1, by omega⟩
        exact ⟨true, by rw [hm]; simp [fewProblem_m, fewProblem_l1]⟩
      · exact ⟨false, rfl⟩
    · have hlt : (i : Int) < (q.cons.length : Int) := by omega
      have hR : R64 ((i : Int) + 1) := by rw [R64_iff]; omega
      show fewProblem_l1 n (fewProblem_m q n) q (i : Int) = _
      generalize fewProblem_m q n = self
      simp only [fewProblem_l1, hlt, hR, decide_true, cond_true, Int.natCast_nonneg, and_self, if_true, Int.toNat_natCast]
      cases decide (((q.cons.getD i default).cells.length : Int) > 20) <;> cases decide (((q.cons.getD i default).runs.length : Int) > 10) <;> rfl
  cases decide (q.cells > 16) with
  | true => exact ⟨_, rfl⟩
  | false =>
  cases decide (q.symbols > 6) with
  | true => exact ⟨_, rfl⟩
  | false =>
  cases decide (((q.values.length : Nat) : Int) > 8) with
  | true => exact ⟨_, rfl⟩
  | false =>
  cases decide (((q.nbrs.length : Nat) : Int) > 20) with
  | true => exact ⟨_, rfl⟩
  | false =>
  by_cases h : ((q.cons.length : Nat) : Int) > 120
  · rw [decide_eq_true h]; exact ⟨_, rfl⟩
  · rw [decide_eq_false h]; exact loop (by omega)
theorem few_some {pos : List Int} (hn : q.cons.length < n) : ∃ b, few n q pos = some b := by
  obtain ⟨b, hb⟩ := fewProblem_some hn
  unfold few few_l0
  rw [hb]
  cases b
  · exact ⟨_, rfl⟩
  · exact ⟨_, rfl⟩
end
end Go.Proofs.YtekkngkphejfcaaDoor
namespace Go.Proofs.YtekkngkphejfcaaDoor
open Go.RowKit
theorem tz64_core (x k idx : Nat) (w : World) (hx0 : ((x : Int) == 0) = false)
    (key : IntKind.u64.wrap (bits BinOp.and IntKind.u64 (x : Int) (IntKind.u64.wrap (-(x : Int))) * 285870213051353865) / 288230376151711744 = (idx : Int))
    (hi : idx < 64) (hk : k < 64) (hcell : w.cell? ⟨1, idx, none⟩ = some (.int .u8 k)) :
    Calls Tryd.prog 70 #[.int .u64 x] w fun e w' => e = .returned (.int .i64 k) ∧ w = w' := by
  go_enter Tryd.func70, Tryd.ntmps70
  go_wp2_with (simp only [key])
  go_ret
  exact ⟨rfl, rfl⟩
theorem tz64_c (x : Nat) (hx : x < 18446744073709551616) (hx0 : x ≠ 0) (w : World) (hT : Tab w) :
    Calls Tryd.prog 70 #[.int .u64 x] w fun e w' => e = .returned (.int .i64 (Lib.ctz 64 x)) ∧ w = w' := by
  obtain ⟨hlow, hk⟩ := Lib.lowest_bit 64 x hx0 hx
  obtain ⟨hi, htab⟩ := Lib.deBruijn64_at _ hk
  have hcell := hT _ hi
  rw [htab] at hcell
  exact tz64_core x _ _ w (by simp; omega) (tz64_key x _ hx hx0 hlow) hi hk hcell
theorem tz_c (x : Nat) (hx : x < 18446744073709551616) (hx0 : x ≠ 0) (w : World) (hT : Tab w) :
    Calls Tryd.prog 51 #[.int .u64 x] w fun e w' => e = .returned (.int .i64 (Lib.ctz 64 x)) ∧ w = w' := by
  have h1 := tz64_c x hx hx0 w hT
  go_enter Tryd.func51, Tryd.ntmps51
  go_wp2_with (go_at_call 70; refine h1.mono ?_; rintro e w' ⟨rfl, rfl⟩)
  go_ret
  exact ⟨rfl, rfl⟩
/-- The symbols of a set, from the least. -/
def symsOf (x : Nat) : List Nat := (List.range 64).filter fun s => x.testBit s
theorem symsOf_zero : symsOf 0 = [] := by simp [symsOf]
theorem low_bits (k m s : Nat) : (2 ^ k * (2 * m + 1)).testBit s = (decide (k ≤ s) && (2 * m + 1).testBit (s - k)) := by
  rw [Nat.mul_comm, Nat.testBit_mul_two_pow]
theorem odd_bit (m s : Nat) : (2 * m + 1).testBit s = (decide (s = 0) || (2 * m).testBit s) := by
  cases s with
  | zero => simp [Nat.testBit_zero]
  | succ s => simp [Nat.testBit_succ]; congr 1; omega
theorem ranges64 : ∀ k, k < 64 → List.range 64 = List.range k ++ k :: List.range' (k + 1) (63 - k) := by decide +kernel
theorem symsOf_step (x : Nat) (hx : x < 18446744073709551616) (hx0 : x ≠ 0) : symsOf x = Lib.ctz 64 x :: symsOf (x &&& (x - 1)) := by
  have hc : Lib.ctz 64 x = Lib.ctzFrom 64 x := by simp [Lib.ctz, hx0]
  obtain ⟨m, hm, hk⟩ := Lib.ctzFrom_spec 64 x (by omega) (by simpa using hx)
  rw [hc]
  generalize Lib.ctzFrom 64 x = k at *
  have hb : ∀ s, x.testBit s = (decide (k ≤ s) && (decide (s - k = 0) || (2 * m).testBit (s - k))) := fun s => by rw [hm, low_bits, odd_bit]
  have hy : ∀ s, (x &&& (x - 1)).testBit s = (x.testBit s && decide (s ≠ k)) := by
    intro s
    have hp : 0 < 2 ^ k := Nat.two_pow_pos k
    have hx1 : x - 1 = 2 ^ k * (2 * m) + (2 ^ k - 1) := by
      rw [hm, Nat.mul_add, Nat.mul_one]; omega
    have hb1 : (x - 1).testBit s = if s < k then (2 ^ k - 1).testBit s else (2 * m).testBit (s - k) := by
      rw [hx1, Nat.testBit_two_pow_mul_add _ (by omega)]
    rw [Nat.testBit_and, hb1, hb]
    by_cases h1 : s < k
    · rw [decide_eq_false (by omega : ¬ k ≤ s)]; simp
    · rw [if_neg h1]
      by_cases h2 : s = k
      · subst h2; simp
      · rw [decide_eq_true (by omega : k ≤ s), decide_eq_false (by omega : ¬ s - k = 0)]; simp [h2]
  unfold symsOf
  have hr : List.range 64 = List.range k ++ k :: List.range' (k + 1) (63 - k) := ranges64 k hk
  rw [hr]
  simp only [List.filter_append, List.filter_cons]
  have h1 : ∀ y : Nat, (∀ s, s < k → y.testBit s = false) → (List.range k).filter (fun s => y.testBit s) = [] := fun y h => by
    rw [List.filter_eq_nil_iff]; intro s hs; simp [h s (List.mem_range.1 hs)]
  rw [h1 x (fun s hs => by rw [hb]; simp; omega), h1 (x &&& (x - 1)) (fun s hs => by rw [hy, hb]; simp; omega)]
  have h2 : x.testBit k = true := by rw [hb]; simp
  have h3 : (x &&& (x - 1)).testBit k = false := by rw [hy]; simp
  simp only [h2, h3, List.nil_append, if_true, Bool.false_eq_true, if_false]
  congr 1
  apply List.filter_congr
  intro s hs
  rw [hy]
  have := List.mem_range'_1.1 hs
  simp; omega
theorem and_pred_nat (x : Nat) (hx : x < 9223372036854775808) (hx0 : x ≠ 0) : bits .and .i64 (x : Int) ((x : Int) - 1) = ((x &&& (x - 1) : Nat) : Int) := by
  have e : ((x : Int) - 1) = ((x - 1 : Nat) : Int) := by omega
  have hlt : x &&& (x - 1) ≤ x := Nat.and_le_left
  rw [e]
  have h1 : (BitVec.ofInt 64 (x : Int)).toNat = x := by
    rw [BitVec.ofInt_natCast, BitVec.toNat_ofNat]; exact Nat.mod_eq_of_lt (by omega)
  have h2 : (BitVec.ofInt 64 ((x - 1 : Nat) : Int)).toNat = x - 1 := by
    rw [BitVec.ofInt_natCast, BitVec.toNat_ofNat]; exact Nat.mod_eq_of_lt (by omega)
  show IntKind.i64.wrap ((BitVec.ofInt 64 (x : Int) &&& BitVec.ofInt 64 ((x - 1 : Nat) : Int)).toNat : Int) = _
  rw [BitVec.toNat_and, h1, h2]
  have hm : ((x &&& (x - 1) : Nat) : Int) % 2 ^ 64 = ((x &&& (x - 1) : Nat) : Int) := by omega
  simp only [IntKind.wrap, IntKind.signed, IntKind.bits, hm]
  rw [if_neg (by rw [Bool.true_and, decide_eq_true_eq]; omega)]
def setIn (w : World) (b o : Nat) : Nat := match w.cell? ⟨b, o, none⟩ with
  | some (.int _ x) => x.toNat
  | _ => 0
def symEnc (s : Nat) : Array Value := #[.int .i64 s]
set_option maxRecDepth 100000 in
set_option maxHeartbeats 4000000 in
theorem symbols_iter (set b o : Nat) (w : World) (hset : set < 9223372036854775808) (hT : Tab w) (hb : w.cell? ⟨b, o, none⟩ = some (.int .i64 set)) (hfz : w.frozen? ⟨b, o, none⟩ = false) (hbt : b ≠ 1) :
    Iter Tryd.prog 50 #[.pointer (some ⟨b, o, none⟩)] ((symsOf set).map symEnc) (fun k => k = b) (fun k => k = 1) w := by
  intro l J Jx G W hJ hJx hU hG hGlt hY h0
  have HY := Lib.hid hY
  clear hY
  have hGb : G b := hG b rfl
  have hbW : W.cell? ⟨b, o, none⟩ = some (.int .i64 set) := hU.cell (fun h => h (.inl rfl)) hb
  have hfW : W.frozen? ⟨b, o, none⟩ = false := by
    rw [World.frozen?_of_block (hU.block b (World.block_lt_of_cell? w _ hb) (fun h => h (.inl rfl)))]; exact hfz
  have hTW : Tab W := fun j hj => hU.cell (fun h => h (.inr rfl)) (hT j hj)
  refine callsIn_of_wp Tryd.func50 rfl trivial ?_ rfl
  simp only [Tryd.ntmps50, List.size_toArray, List.length_cons, List.length_nil, Nat.reduceAdd, Nat.reduceSub, Array.replicate_succ, Array.replicate_zero, List.push_toArray, List.append_toArray, List.nil_append, List.cons_append]
  gi_wp2
  gi_loopw [3, 4, 5, 6, 7, 8, 9, 10, 11, 12, 13, 14] (fun _ _ _ _ _ _ _ _ _ _ _ _ wr => ∃ (i x : Nat), W.heap.size ≤ wr.heap.size ∧ x < 9223372036854775808 ∧ i ≤ (symsOf set).length ∧ Hid ((symsOf set).drop i = symsOf x) ∧ Hid (J i G wr) ∧ wr.cell? ⟨b, o, none⟩ = some (.int .i64 x) ∧ wr.frozen? ⟨b, o, none⟩ = false ∧ Hid (Tab wr))
    (fun _ _ _ _ _ _ _ _ _ _ _ _ wr => setIn wr b o)
  case atStart => exact ⟨0, set, Nat.le_refl _, hset, Nat.zero_le _, Lib.hid rfl, Lib.hid h0, hbW, hfW, Lib.hid hTW⟩
  case round =>
    obtain ⟨i, x, hsz, hx, hin, hd, hj, hc, hf, ht⟩ := hrel
    by_cases hx0 : x = 0
    · subst hx0
      have hil : i = (symsOf set).length := by
        have := congrArg List.length hd.out
        rw [List.length_drop, symsOf_zero, List.length_nil] at this
        omega
      gi_wp2
      go_end0
      exact ⟨⟨_, rfl⟩, .inl ⟨G, hil ▸ hj.out⟩⟩
    · have N0 : ((x : Int) == 0) = false := by simp [hx0]
      have hdl : (symsOf set).drop i = Lib.ctz 64 x :: symsOf (x &&& (x - 1)) := by rw [hd.out, symsOf_step x (by omega) hx0]
      have hil : i < (symsOf set).length := by
        rcases Nat.lt_or_ge i (symsOf set).length with h | h
        · exact h
        · rw [List.drop_eq_nil_of_le h] at hdl; cases hdl
      have hie : (symsOf set)[i] = Lib.ctz 64 x := by
        have := List.drop_eq_getElem_cons hil
        rw [hdl] at this; injection this with h1 h2; exact h1.symm
      obtain ⟨fn, tmps, asg, body, hy, hR⟩ := HY.out i (symEnc (Lib.ctz 64 x)) G wr (by rw [List.getElem?_map, List.getElem?_eq_getElem hil, hie]; rfl) hj.out
      have hR' := Lib.hid hR
      clear hR
      unfold symEnc at hy
      have htz := Lib.hid (tz_c x (by omega) hx0 wr ht.out)
      have hdl' := Lib.hid hdl
      clear hdl hd
      gi_wp2_with (first | refine ⟨trivial, rfl, ?_⟩ | (gi_at_call 51; refine (callsIn_wide.2 htz.out).mono ?_; rintro e w' ⟨rfl, rfl⟩))
      refine ⟨rfl, hR'.out.mono ?_⟩
      rintro e W1 ⟨hu1, (⟨rfl, hj1⟩ | ⟨rfl, hx1⟩)⟩
      · have hc1 : W1.cell? ⟨b, o, none⟩ = some (.int .i64 x) := hu1.cell (fun h => h (.inl hGb)) hc
        have hf1 : W1.frozen? ⟨b, o, none⟩ = false := by
          rw [World.frozen?_of_block (hu1.block b (World.block_lt_of_cell? wr _ hc) (fun h => h (.inl hGb)))]; exact hf
        have ht1 : Tab W1 := fun j hj => hu1.cell (fun h => h (.inr rfl)) (ht.out j hj)
        have hs1 : Upd G W1 (W1.setCell ⟨b, o, none⟩ (.int .i64 ((x &&& (x - 1) : Nat) : Int))) := (Upd.refl G W1).setCell (fun _ => hGb) _
        have hsz2 := Nat.le_trans hsz (Nat.le_trans hu1.size hs1.size)
        have hj2 := Lib.hid (hJ _ _ _ _ _ hj1 hs1 (fun k h => .inl h) (fun k h => Nat.lt_of_lt_of_le (hGlt k h) hsz2))
        have ht2 : Hid (Tab (W1.setCell ⟨b, o, none⟩ (.int .i64 ((x &&& (x - 1) : Nat) : Int)))) := Lib.hid fun j hj =>
          ((Upd.refl (fun k => k = b) W1).setCell (fun _ => rfl) _).cell (fun e => hbt e.symm) (ht1 j hj)
        have hlt : x &&& (x - 1) < x := Nat.lt_of_le_of_lt Nat.and_le_right (by omega)
        clear hs1 ht1
        gi_wp2
        rw [and_pred_nat x hx hx0]
        have hc2 : (W1.setCell ⟨b, o, none⟩ (.int .i64 ((x &&& (x - 1) : Nat) : Int))).cell? ⟨b, o, none⟩ = some (.int .i64 ((x &&& (x - 1) : Nat) : Int)) := World.cell?_setCell_same' W1 _ _ (by rw [hc1]; rfl)
        refine ⟨⟨_, _, _, _, _, _, _, _, _, _, _, _, ⟨i + 1, x &&& (x - 1), hsz2, by omega, hil, Lib.hid ?_, hj2, hc2, ?_, ht2⟩, rfl⟩, ?_⟩
        · rw [← List.drop_drop, hdl'.out]; rfl
        · rw [World.frozen?_setCell]; exact hf1
        · unfold setIn
          rw [hc2, hc]
          show ((x &&& (x - 1) : Nat) : Int).toNat < (x : Int).toNat
          omega
      · gi_wp2
        refine bodyPost_ret (results_none rfl _ _ _) rfl ?_
        exact ⟨⟨_, rfl⟩, .inr ⟨G, hx1⟩⟩
def symsI (x : Int) : List Int := (symsOf x.toNat).map fun (s : Nat) => (s : Int)
theorem enc_symsI (x : Int) : (symsI x).map encI = (symsOf x.toNat).map symEnc := by
  unfold symsI
  rw [List.map_map]
  rfl
theorem symbols_law {x : Int} (hx : (0 : Int) ≤ x ∧ x < 9223372036854775808) (w : World) (b o : Nat) (u : Value) (hg : GG.gi w) (hng : GG.ng ≤ b) (hb : ∃ cs t, w.heap[b]? = some (.cells cs t (0, 0))) (hc : w.cell? ⟨b, o, none⟩ = some u) (hr : u = .int .i64 x) :
    Iter Tryd.prog 50 #[.pointer (some ⟨b, o, none⟩)] ((symsI x).map encI) (fun k => k = b) (fun k => k = 1) w := by
  rw [enc_symsI]
  obtain ⟨cs, t, hb⟩ := hb
  have hng : 2 ≤ b := hng
  refine symbols_iter x.toNat b o w (by omega) hg.1 ?_ ?_ (by omega)
  · rw [hc, hr]; congr 2; omega
  · unfold World.frozen?; simp [hb]
end Go.Proofs.YtekkngkphejfcaaDoor
namespace Go.Proofs.YtekkngkphejfcaaDoor
open Go.RowKit
/-- A function value over a box of its own is an iterator, if the code says so. -/
theorem ES.iterOf {P : Program} {Γ : Glo} {f gf : Nat} {ds : List DV} {c : Nat → DV} {d : DV} {encs : List (Array Value)} {Rd : Nat → Prop} (h0 : ES P Γ f ds [] (.fn gf 1 c) [some (.cells [d])] true) (hc : c 0 = .ref 0 0) (hds : ds.all nrefB = true)
    (eg : ∀ args W, (callFunc gf args).run P W = .ok (.enter gf args) W)
    (law : ∀ (w : World) (b o : Nat) (u : Value), Γ.gi w → Γ.ng ≤ b → (∃ cs t, w.heap[b]? = some (.cells cs t (0, 0))) → w.cell? ⟨b, o, none⟩ = some u → RepV (fun _ => False) w d [] u → Iter P gf #[.pointer (some ⟨b, o, none⟩)] encs (fun k => k = b) Rd w)
    (hd : plainC d = true) (hRd : ∀ b, Rd b → b < Γ.ng) (h : DH) : ES P Γ f ds h (.it h.length) (h ++ [some (.iter encs)]) true := by
  refine ⟨h0.1, fun N ρ w args HR hargs => ?_⟩
  refine (h0.2 (MS N h ρ) [] w args (hrel_nil (fun b hb => HR.lt2 hb) HR.gi) ⟨hargs.1, fun i hi => ?_⟩).mono ?_
  · have hx := nrefB_ok (List.all_eq_true.1 hds (ds.getD i .any) (by simp [hi]))
    exact RepV.out _ (out_iff (fun b hb => MS_nil.1 hb) []) (hx _ _ _ _ (hargs.2 i hi))
  · rintro e w' ⟨v, rfl, ⟨⟨ρ', g1, g2, g3, g4⟩, g5⟩⟩
    have hE := g5 rfl
    obtain ⟨p, hp, hob⟩ := g1.obj 0 _ rfl
    have hob : RowAt w' p 1 _ := hob
    have hf : ∀ b, p.foot b → w.heap.size ≤ b := fun b hb => (g3.grow b ⟨0, _, p, rfl, hp, hb⟩).resolve_left fun ⟨k, o', p', q1, _⟩ => by simp at q1
    obtain ⟨lb, hv, hl, hlb⟩ := g2
    obtain ⟨u, hu, hr⟩ := hlb 0 (by omega)
    rw [hc] at hr
    obtain ⟨p', hp', hu2⟩ := hr
    have ep : p' = p := Option.some.inj (hp'.symm.trans hp)
    subst ep
    have hlb' : lb = #[.pointer (some ⟨p'.blk, p'.off, none⟩)] := by
      apply Array.ext
      · simp [hl]
      · intro i h1 h2
        have : i = 0 := by omega
        subst this
        have := Array.getElem?_eq_some_iff.1 hu
        obtain ⟨_, e⟩ := this
        rw [e, hu2]; rfl
    subst hlb'
    obtain ⟨u2, c1, c2⟩ := RowAt.cell hob (j := 0) (by omega)
    have hfoot : p'.foot = fun b => b = p'.blk := hob.1
    have hng : Γ.ng ≤ w.heap.size := Γ.lo _ HR.gi
    have hcell := g1.cel 0 _ p' p'.blk rfl hp (by rw [hfoot])
    refine ⟨v, rfl, ⟨⟨ρ ++ [{ p' with val := v }], HR.snoc hE (fun b hb => ⟨hf b hb, (g1.cel 0 _ p' b rfl hp hb).2.2⟩) ?_, ⟨{ p' with val := v }, by rw [← HR.len]; simp, rfl⟩, Step.snoc HR hE hf, fun _ _ h => get_snoc_left h⟩, g5⟩⟩
    obtain ⟨_, cs, t, hcs, _⟩ := hob
    refine ⟨gf, _, Rd, ⟨hv, eg⟩, ?_, fun b hb => ?_, fun b hb => ?_⟩
    · show Iter P gf _ encs p'.foot Rd w'
      rw [hfoot]
      refine law w' _ _ u2 g1.gi hcell.1 ⟨cs, t, hcs⟩ (by simpa using c1) ?_
      exact RepV.out _ (out_iff (fun b hb => hb.elim) []) (plainC_nil hd c2)
    · have hb' := hRd b hb
      refine ⟨fun hm => ?_, Nat.lt_of_lt_of_le (Nat.lt_of_lt_of_le hb' hng) hE.size⟩
      rcases hm with hm | hm
      · have := (HR.nlt b hm).2; omega
      · rcases MO.snoc HR hm with hm | hm
        · have := HR.low hm; omega
        · have := hf b hm; omega
    · obtain ⟨_, _, c, t, z, h4⟩ := g1.cel 0 _ p' b rfl hp hb
      exact (Array.getElem?_eq_some_iff.1 h4).1
end Go.Proofs.YtekkngkphejfcaaDoor
namespace Go.Proofs.YtekkngkphejfcaaDoor
open Go.RowKit
set_option maxRecDepth 100000
set_option maxHeartbeats 40000000
inductive deadPPt where
  | l1 (x7 : Int)
def deadP_l1 (n : Nat) (self : deadPPt → Option Bool) (sets : List Int) (x7 : Int) : Option Bool :=
  bif (decide (x7 < (sets.length : Int))) then
   if 0 ≤ x7 ∧ x7 < (sets.length : Int) then
    bif ((sets.getD ((x7).toNat) 0) == 0) then
     some true
    else
     if R64 (x7 + 1) then
      self (.l1 (x7 + 1))
     else none
   else none
  else
   some false
def deadP_l0 (n : Nat) (self : deadPPt → Option Bool) (sets : List Int) : Option Bool :=
  self (.l1 0)
def deadP_m (sets : List Int) : Nat → deadPPt → Option Bool
  | 0, _ => none
  | n + 1, .l1 x7 => deadP_l1 n (deadP_m sets n) sets x7
def deadP (n : Nat) (sets : List Int) : Option Bool := deadP_l0 n (deadP_m sets n) sets
/-- What the points stand for. -/
def deadP_at (n : Nat) (B : Nat) (N : Yard Tryd.prog GG 0) (sets : List Int) (r : Bool) : deadPPt → Prop
  | .l1 x7 => ∀ m0 : Nat, n ≤ m0 → TrK Tryd.prog GG Fence.wide (some B) 0 N (Fin Tryd.prog Tryd.f26 0 (.bool r) []) (toN m0 (atNC (bodyC Tryd.f26) 0 [])) ⟨frm 14 [(5, .ints sets), (6, .i (sets.length : Int)), (7, .i x7)], []⟩
theorem deadP_all (B : Nat) (N : Yard Tryd.prog GG 0) (sets : List Int) : ∀ (n : Nat) (pt : deadPPt) (r : Bool), deadP_m sets n pt = some r → deadP_at n B N sets r pt := by
  intro n; induction n with
  | zero => intro _ _ h; cases h
  | succ n hself =>
   intro pt r h
   cases pt
   case l1 x7 =>
    have h : deadP_l1 n (deadP_m sets n) sets x7 = some r := h
    intro m0 hm0
    refine rd hm0 fun m0 hm0 => ?_
    unfold deadP_l1 at h
    rcases bifSome h with ⟨c0, h⟩ | ⟨c0, h⟩
    · obtain ⟨g0, h⟩ := guardSome h
      have p := H0.b 8 c0 |>.g g0
      rcases bifSome h with ⟨c1, h⟩ | ⟨c1, h⟩
      · obtain rfl := Option.some.inj h
        exact ee sch0 [2] [] (p.b 12 c1)
      · obtain ⟨g1, h⟩ := guardSome h
        exact gg sch0 [] (p.b 12 c1 |>.w 13 g1) (hself _ _ h m0 hm0)
    · obtain rfl := Option.some.inj h
      exact ee sch0 [2] [] (H0.b 8 c0)
theorem deadP_ok {n : Nat} {sets : List Int} {r : Bool} (h : deadP n sets = some r) : ES Tryd.prog GG 26 [.ints sets] [] (.bool r) [] true := by
  refine ot Tryd.func26 fun B N => ?_
  have hself := deadP_all B N sets n
  unfold deadP at h
  unfold deadP_l0 at h
  exact gg sch0 [] H0 (en n (hself _ _ h n (Nat.le_refl _)))
def isDead_l0 (n : Nat) (pos : List Int) : Option Bool :=
  (deadP n pos).bind fun y1 =>
   some y1
def isDead (n : Nat) (pos : List Int) : Option Bool := isDead_l0 n pos
theorem isDead_ok {n : Nat} {pos : List Int} {r : Bool} (h : isDead n pos = some r) : ES Tryd.prog GG 12 [.ints pos] [] (.bool r) [] true := by
  refine ot Tryd.func12 fun B N => ?_
  unfold isDead at h
  unfold isDead_l0 at h
  obtain ⟨y1, hy1, h⟩ := bindSome h
  obtain rfl := Option.some.inj h
  exact ee sch0 [2] [] (H0.c (fb (deadP_ok hy1) []))
def normalP_l0 (n : Nat) (pos : List Int) : Option ((List Int)) :=
  (deadP n pos).bind fun y1 =>
   bif y1 then
    if ((pos.length : Int) : Int) = (pos.length : Int) ∧ 0 ≤ (pos.length : Int) ∧ ((pos.length : Int) : Int) ≤ 1000000000000 then
     if pos.length = (List.replicate pos.length (0 : Int)).length then
      some (List.replicate pos.length (0 : Int))
     else none
    else none
   else
    some pos
def normalP (n : Nat) (pos : List Int) : Option ((List Int)) := normalP_l0 n pos
theorem normalP_ok {n : Nat} {pos : List Int} {r : (List Int)} (h : normalP n pos = some r) : ES Tryd.prog GG 30 [.ints pos] [] (.ints r) [] true := by
  refine ot Tryd.func30 fun B N => ?_
  unfold normalP at h
  unfold normalP_l0 at h
  obtain ⟨y1, hy1, h⟩ := bindSome h
  have p := H0.c (fb (deadP_ok hy1) [])
  rcases bifSome h with ⟨c0, h⟩ | ⟨c0, h⟩
  · obtain ⟨g0, h⟩ := guardSome h
    obtain ⟨g1, h⟩ := guardSome h
    cases h
    exact ez sch0 [2] [0] (p.b 4 c0 |>.g g0) [0] (H0.g g1)
  · obtain rfl := Option.some.inj h
    exact ee sch0 [2] [] (p.b 4 c0)
inductive pcheckPt where
  | l1 (x20 : Int)
def pcheck_l1 (n : Nat) (self : pcheckPt → Option Int) (q : ProbD) (pos : List Int) (x20 : Int) : Option Int :=
  bif (decide (x20 < (pos.length : Int))) then
   if 0 ≤ x20 ∧ x20 < (pos.length : Int) then
    bif (decide ((pos.getD ((x20).toNat) 0) < 0)) then
     some 250
    else
     if 0 ≤ q.symbols ∧ q.symbols ≤ (IntKind.i64.bits : Int) then
      bif (decide ((pos.getD ((x20).toNat) 0) ≥ (IntKind.i64.wrap (1 * 2 ^ (q.symbols).toNat)))) then
       some 250
      else
       if R64 (x20 + 1) then
        self (.l1 (x20 + 1))
       else none
     else none
   else none
  else
   some 0
def pcheck_l0 (n : Nat) (self : pcheckPt → Option Int) (q : ProbD) (pos : List Int) : Option Int :=
  (valid n q).bind fun y1 =>
   bif (y1 != 0) then
    some y1
   else
    bif ((pos.length : Int) != q.cells) then
     some 250
    else
     self (.l1 0)
def pcheck_m (q : ProbD) (pos : List Int) : Nat → pcheckPt → Option Int
  | 0, _ => none
  | n + 1, .l1 x20 => pcheck_l1 n (pcheck_m q pos n) q pos x20
def pcheck (n : Nat) (q : ProbD) (pos : List Int) : Option Int := pcheck_l0 n (pcheck_m q pos n) q pos
/-- What the points stand for. -/
def pcheck_at (n : Nat) (B : Nat) (N : Yard Tryd.prog GG 0) (q : ProbD) (pos : List Int) (r : Int) : pcheckPt → Prop
  | .l1 x20 => ∀ m0 : Nat, n ≤ m0 → TrK Tryd.prog GG Fence.wide (some B) 0 N (Fin Tryd.prog Tryd.f39 0 (.i r) []) (toN m0 (atNC (bodyC Tryd.f39) 0 [])) ⟨frm 34 [(2, .ref 0 0), (18, .ints pos), (19, .i (pos.length : Int)), (20, .i x20)], [some (.cells (probC q))]⟩
theorem pcheck_all (B : Nat) (N : Yard Tryd.prog GG 0) (q : ProbD) (pos : List Int) : ∀ (n : Nat) (pt : pcheckPt) (r : Int), pcheck_m q pos n pt = some r → pcheck_at n B N q pos r pt := by
  intro n; induction n with
  | zero => intro _ _ h; cases h
  | succ n hself =>
   intro pt r h
   cases pt
   case l1 x20 =>
    have h : pcheck_l1 n (pcheck_m q pos n) q pos x20 = some r := h
    intro m0 hm0
    refine rd hm0 fun m0 hm0 => ?_
    unfold pcheck_l1 at h
    rcases bifSome h with ⟨c0, h⟩ | ⟨c0, h⟩
    · obtain ⟨g0, h⟩ := guardSome h
      have p := H0.b 21 c0 |>.g g0
      rcases bifSome h with ⟨c1, h⟩ | ⟨c1, h⟩
      · obtain rfl := Option.some.inj h
        exact ee sch0 [4] [] (p.b 25 c1)
      · obtain ⟨g1, h⟩ := guardSome h
        have p := p.b 25 c1 |>.g g1
        rcases bifSome h with ⟨c2, h⟩ | ⟨c2, h⟩
        · obtain rfl := Option.some.inj h
          exact ee sch0 [4] [] (p.b 31 c2)
        · obtain ⟨g2, h⟩ := guardSome h
          exact gg sch0 [0] (p.b 31 c2 |>.w 33 g2) (hself _ _ h m0 hm0)
    · obtain rfl := Option.some.inj h
      exact ee sch0 [4] [] (H0.b 21 c0)
theorem pcheck_ok {n : Nat} {q : ProbD} {pos : List Int} {r : Int} (h : pcheck n q pos = some r) : ES Tryd.prog GG 39 [.agg 5 (L1 (probC q)), .ints pos] [] (.i r) [] true := by
  refine ot Tryd.func39 fun B N => ?_
  have hself := pcheck_all B N q pos n
  unfold pcheck at h
  unfold pcheck_l0 at h
  obtain ⟨y1, hy1, h⟩ := bindSome h
  have p := H0.c (fb (valid_ok hy1) [some (.cells (probC q))])
  rcases bifSome h with ⟨c0, h⟩ | ⟨c0, h⟩
  · obtain rfl := Option.some.inj h
    exact ee sch0 [4] [] (p.b 11 c0)
  · have p := p.b 11 c0
    rcases bifSome h with ⟨c1, h⟩ | ⟨c1, h⟩
    · obtain rfl := Option.some.inj h
      exact ee sch0 [4] [] (p.b 17 c1)
    · exact gg sch0 [0] (p.b 17 c1) (en n (hself _ _ h n (Nat.le_refl _)))
theorem s_meetP_6 : SOk (regF Tryd.f16 6) [([0, 1, 2, 3, 4, 5, 6, 7, 8, 9], 10)] [] [11, 12] := by unfold SOk; kernel_rfl
def sch_meetP : Sch := fun i => match i with
  | 6 => .ord [([0, 1, 2, 3, 4, 5, 6, 7, 8, 9], 10)] [] [11, 12]
  | _ => .no
inductive meetPPt where
  | l1
  | l2 (x4 : Nat) (x14 : Int) (o0 : List Int)
def meetP_l1 (n : Nat) (self : meetPPt → Option ((List Int) × Int)) (a b_ : List Int) : Option ((List Int) × Int) :=
  bif (decide (0 < (a.length : Int))) then
   if ((0 : Int) ≤ 0 ∧ 0 < (a.length : Int)) ∧ ((0 : Int) ≤ 0 ∧ 0 < (b_.length : Int)) ∧ ((0 = 0 ∧ 1 = ([(bits .and .i64 (a.getD 0 0) (b_.getD 0 0))] : List Int).length) ∧ 0 < ([(bits .and .i64 (a.getD 0 0) (b_.getD 0 0))] : List Int).length ∧ ([(bits .and .i64 (a.getD 0 0) (b_.getD 0 0))] : List Int).length ≤ LIM) then
    self (.l2 (([(bits .and .i64 (a.getD 0 0) (b_.getD 0 0))] : List Int).length) 1 ([(bits .and .i64 (a.getD 0 0) (b_.getD 0 0))] : List Int))
   else none
  else
   (normalP n ([] : List Int)).bind fun y1 =>
    some (y1, 0)
def meetP_l2 (n : Nat) (self : meetPPt → Option ((List Int) × Int)) (a b_ : List Int) (x4 : Nat) (x14 : Int) (o0 : List Int) : Option ((List Int) × Int) :=
  bif (decide (x14 < (a.length : Int))) then
   if (0 ≤ x14 ∧ x14 < (a.length : Int)) ∧ (0 ≤ x14 ∧ x14 < (b_.length : Int)) ∧ ((0 = 0 ∧ 1 = ([(bits .and .i64 (a.getD ((x14).toNat) 0) (b_.getD ((x14).toNat) 0))] : List Int).length) ∧ (0 = 0 ∧ x4 = o0.length) ∧ o0.length + ([(bits .and .i64 (a.getD ((x14).toNat) 0) (b_.getD ((x14).toNat) 0))] : List Int).length ≤ LIM) ∧ R64 (x14 + 1) then
    self (.l2 (o0.length + ([(bits .and .i64 (a.getD ((x14).toNat) 0) (b_.getD ((x14).toNat) 0))] : List Int).length) (x14 + 1) (o0 ++ ([(bits .and .i64 (a.getD ((x14).toNat) 0) (b_.getD ((x14).toNat) 0))] : List Int)))
   else none
  else
   if x4 = o0.length then
    (normalP n o0).bind fun y1 =>
     some (y1, 0)
   else none
def meetP_l0 (n : Nat) (self : meetPPt → Option ((List Int) × Int)) (a b_ : List Int) : Option ((List Int) × Int) :=
  bif ((a.length : Int) != (b_.length : Int)) then
   some (([] : List Int), 250)
  else
   self (.l1)
def meetP_m (a b_ : List Int) : Nat → meetPPt → Option ((List Int) × Int)
  | 0, _ => none
  | n + 1, .l1 => meetP_l1 n (meetP_m a b_ n) a b_
  | n + 1, .l2 x4 x14 o0 => meetP_l2 n (meetP_m a b_ n) a b_ x4 x14 o0
def meetP (n : Nat) (a b_ : List Int) : Option ((List Int) × Int) := meetP_l0 n (meetP_m a b_ n) a b_
/-- What the points stand for. -/
def meetP_at (n : Nat) (B : Nat) (N : Yard Tryd.prog GG 0) (a b_ : List Int) (r : (List Int) × Int) : meetPPt → Prop
  | .l1 => ∀ m0 : Nat, n ≤ m0 → TrK Tryd.prog GG Fence.wide (some B) 0 N (Fin Tryd.prog Tryd.f16 0 (.tup 2 (L1 [.ints r.1, .i r.2])) []) (toN m0 (atNC (bodyC Tryd.f16) 0 [])) ⟨frm 32 [(0, .ints a), (1, .ints b_), (4, .nils), (13, .i (a.length : Int)), (14, .i 0)], []⟩
  | .l2 x4 x14 o0 => ∀ m0 : Nat, n ≤ m0 → TrK Tryd.prog GG Fence.wide (some B) 0 N (Fin Tryd.prog Tryd.f16 0 (.tup 2 (L1 [.ints r.1, .i r.2])) []) (toN m0 (atNC (bodyC Tryd.f16) 0 [])) ⟨frm 32 [(0, .ints a), (1, .ints b_), (4, .msl 0 1 0 x4), (13, .i (a.length : Int)), (14, .i x14)], [some (.ints o0)]⟩
theorem meetP_all (B : Nat) (N : Yard Tryd.prog GG 0) (a b_ : List Int) : ∀ (n : Nat) (pt : meetPPt) (r : (List Int) × Int), meetP_m a b_ n pt = some r → meetP_at n B N a b_ r pt := by
  intro n; induction n with
  | zero => intro _ _ h; cases h
  | succ n hself =>
   intro pt r h
   cases pt
   case l1 =>
    have h : meetP_l1 n (meetP_m a b_ n) a b_ = some r := h
    intro m0 hm0
    refine rd hm0 fun m0 hm0 => ?_
    unfold meetP_l1 at h
    rcases bifSome h with ⟨c0, h⟩ | ⟨c0, h⟩
    · obtain ⟨⟨g0, g1, g2⟩, h⟩ := guardSome h
      exact gg sch_meetP [1] (H0.b 15 c0 |>.g s_meetP_6 |>.g g0 |>.g g1 |>.g g2) (hself _ _ h m0 hm0)
    · obtain ⟨y1, hy1, h⟩ := bindSome h
      cases h
      exact ee sch_meetP [4, 5] [] (H0.b 15 c0 |>.c (fb (ES.argsLe (ds := [.nils]) (normalP_ok hy1) ⟨DLe.ints_nil, trivial⟩) []))
   case l2 x4 x14 o0 =>
    have h : meetP_l2 n (meetP_m a b_ n) a b_ x4 x14 o0 = some r := h
    intro m0 hm0
    refine rd hm0 fun m0 hm0 => ?_
    unfold meetP_l2 at h
    rcases bifSome h with ⟨c0, h⟩ | ⟨c0, h⟩
    · obtain ⟨⟨g0, g1, g2, g3⟩, h⟩ := guardSome h
      exact gg sch_meetP [2] (H0.b 15 c0 |>.g s_meetP_6 |>.g g0 |>.g g1 |>.g g2 |>.w 29 g3) (hself _ _ h m0 hm0)
    · obtain ⟨g0, h⟩ := guardSome h
      refine gz (stopAt 8 sch_meetP) [0] (H0.b 15 c0) [0] (H0.g g0) (atGC (bodyC Tryd.f16) 8 []) (frm 32 [(4, .ints o0)]) [none] ?_
      obtain ⟨y1, hy1, h⟩ := bindSome h
      cases h
      exact ee sch_meetP [4, 5] [] (H0.c (fb (normalP_ok hy1) [none]))
theorem meetP_ok {n : Nat} {a b_ : List Int} {r : (List Int) × Int} (h : meetP n a b_ = some r) : ES Tryd.prog GG 16 [.ints a, .ints b_] [] (.tup 2 (L1 [.ints r.1, .i r.2])) [] true := by
  refine ot Tryd.func16 fun B N => ?_
  have hself := meetP_all B N a b_ n
  unfold meetP at h
  unfold meetP_l0 at h
  rcases bifSome h with ⟨c0, h⟩ | ⟨c0, h⟩
  · cases h
    exact el sch_meetP [4, 5] [] (H0.b 11 c0) [] H0 [.nils, .i 250] (DLe.tupL (l := [.nils, .i 250]) (l' := [.ints ([] : List Int), .i 250]) rfl ⟨DLe.ints_nil, (DLe.refl _), trivial⟩)
  · exact gg sch_meetP [] (H0.b 11 c0) (en n (hself _ _ h n (Nat.le_refl _)))
def withoutP_l0 (n : Nat) (s_ symbol : Int) : Option Int :=
  if 0 ≤ symbol ∧ symbol ≤ (IntKind.u64.bits : Int) then
   some (bits .andNot .u64 s_ (IntKind.u64.wrap (1 * 2 ^ (symbol).toNat)))
  else none
def withoutP (n : Nat) (s_ symbol : Int) : Option Int := withoutP_l0 n s_ symbol
theorem withoutP_ok {n : Nat} {s_ symbol : Int} {r : Int} (h : withoutP n s_ symbol = some r) : ES Tryd.prog GG 29 [.int .u64 s_, .i symbol] [] (.int .u64 r) [] true := by
  refine ot Tryd.func29 fun B N => ?_
  unfold withoutP at h
  unfold withoutP_l0 at h
  obtain ⟨g0, h⟩ := guardSome h
  cases h
  exact ee sch0 [4] [] (H0.g g0)
def cloneI_l0 (n : Nat) (s_ : List Int) : Option ((List Int)) :=
  if 0 < s_.length ∧ ((True) ∧ (0 = 0 ∧ 0 = ([] : List Int).length) ∧ ([] : List Int).length + s_.length ≤ LIM) then
   if ([] : List Int).length + s_.length = (([] : List Int) ++ s_).length then
    some (([] : List Int) ++ s_)
   else none
  else none
def cloneI (n : Nat) (s_ : List Int) : Option ((List Int)) := cloneI_l0 n s_
theorem cloneI_ok {n : Nat} {s_ : List Int} {r : (List Int)} (h : cloneI n s_ = some r) : ES Tryd.prog GG 49 [.ints s_] [] (.msl 0 1 0 r.length) [some (.ints r)] true := by
  refine ot Tryd.func49 fun B N => ?_
  unfold cloneI at h
  unfold cloneI_l0 at h
  obtain ⟨⟨g0, g1⟩, h⟩ := guardSome h
  obtain ⟨g2, h⟩ := guardSome h
  cases h
  exact el sch0 [2] [1] (H0.g g0 |>.g g1) [] H0 [.msl 0 1 0 (([] : List Int).length + s_.length)] (DLe.mslN g2)
def cloneB_l0 (n : Nat) (s_ : List Bool) : Option ((List Bool)) :=
  if 0 < s_.length ∧ ((True) ∧ (0 = 0 ∧ 0 = ([] : List Bool).length) ∧ ([] : List Bool).length + s_.length ≤ LIM) then
   if ([] : List Bool).length + s_.length = (([] : List Bool) ++ s_).length then
    some (([] : List Bool) ++ s_)
   else none
  else none
def cloneB (n : Nat) (s_ : List Bool) : Option ((List Bool)) := cloneB_l0 n s_
theorem cloneB_ok {n : Nat} {s_ : List Bool} {r : (List Bool)} (h : cloneB n s_ = some r) : ES Tryd.prog GG 75 [.bools s_] [] (.msl 0 1 0 r.length) [some (.bools r)] true := by
  refine ot Tryd.func75 fun B N => ?_
  unfold cloneB at h
  unfold cloneB_l0 at h
  obtain ⟨⟨g0, g1⟩, h⟩ := guardSome h
  obtain ⟨g2, h⟩ := guardSome h
  cases h
  exact el sch0 [2] [1] (H0.g g0 |>.g g1) [] H0 [.msl 0 1 0 (([] : List Bool).length + s_.length)] (DLe.mslN g2)
def checkP_l0 (n : Nat) (q : ProbD) (i : Int) (pos : List Int) : Option Int :=
  (levelP n q i).bind fun y1 =>
   bif (y1.2 != 0) then
    some y1.2
   else
    (pcheck n q pos).bind fun y2 =>
     some y2
def checkP (n : Nat) (q : ProbD) (i : Int) (pos : List Int) : Option Int := checkP_l0 n q i pos
theorem checkP_ok {n : Nat} {q : ProbD} {i : Int} {pos : List Int} {r : Int} (h : checkP n q i pos = some r) : ES Tryd.prog GG 24 [.agg 5 (L1 (probC q)), .i i, .ints pos] [] (.i r) [] true := by
  refine ot Tryd.func24 fun B N => ?_
  unfold checkP at h
  unfold checkP_l0 at h
  obtain ⟨y1, hy1, h⟩ := bindSome h
  have p := H0.c (fb (levelP_ok hy1) [some (.cells (probC q))])
  rcases bifSome h with ⟨c0, h⟩ | ⟨c0, h⟩
  · cases h
    exact ee sch0 [6] [] (p.b 16 c0)
  · obtain ⟨y2, hy2, h⟩ := bindSome h
    obtain rfl := Option.some.inj h
    exact ee sch0 [6] [] (p.b 16 c0 |>.c (fb (pcheck_ok hy2) [some (.cells (probC q))]))
theorem s_samePairs_6 : SOk (regF Tryd.f19 6) [] (List.range 9) [] := by unfold SOk; kernel_rfl
def sch_samePairs : Sch := fun i => match i with
  | 6 => .ord [] (List.range 9) []
  | _ => .no
inductive samePairsPt where
  | l1 (x5 : Int)
def samePairs_l1 (n : Nat) (self : samePairsPt → Option Bool) (a b_ : List (Int × Int)) (x5 : Int) : Option Bool :=
  bif (decide (x5 < (a.length : Int))) then
   if (0 ≤ x5 ∧ x5 < (a.length : Int)) ∧ (0 ≤ x5 ∧ x5 < (b_.length : Int)) then
    bif (!((((a.getD ((x5).toNat) default).1) == ((b_.getD ((x5).toNat) default).1)) && ((((a.getD ((x5).toNat) default).2) == ((b_.getD ((x5).toNat) default).2)) && true))) then
     some false
    else
     if R64 (x5 + 1) then
      self (.l1 (x5 + 1))
     else none
   else none
  else
   some true
def samePairs_l0 (n : Nat) (self : samePairsPt → Option Bool) (a b_ : List (Int × Int)) : Option Bool :=
  bif ((a.length : Int) != (b_.length : Int)) then
   some false
  else
   self (.l1 0)
def samePairs_m (a b_ : List (Int × Int)) : Nat → samePairsPt → Option Bool
  | 0, _ => none
  | n + 1, .l1 x5 => samePairs_l1 n (samePairs_m a b_ n) a b_ x5
def samePairs (n : Nat) (a b_ : List (Int × Int)) : Option Bool := samePairs_l0 n (samePairs_m a b_ n) a b_
/-- What the points stand for. -/
def samePairs_at (n : Nat) (B : Nat) (N : Yard Tryd.prog GG 0) (a b_ : List (Int × Int)) (r : Bool) : samePairsPt → Prop
  | .l1 x5 => ∀ m0 : Nat, n ≤ m0 → TrK Tryd.prog GG Fence.wide (some B) 0 N (Fin Tryd.prog Tryd.f19 0 (.bool r) []) (toN m0 (atNC (bodyC Tryd.f19) 0 [])) ⟨frm 26 [(0, .sl 2 a.length (rowE iiC a)), (1, .sl 2 b_.length (rowE iiC b_)), (5, .i x5)], []⟩
theorem samePairs_all (B : Nat) (N : Yard Tryd.prog GG 0) (a b_ : List (Int × Int)) : ∀ (n : Nat) (pt : samePairsPt) (r : Bool), samePairs_m a b_ n pt = some r → samePairs_at n B N a b_ r pt := by
  intro n; induction n with
  | zero => intro _ _ h; cases h
  | succ n hself =>
   intro pt r h
   cases pt
   case l1 x5 =>
    have h : samePairs_l1 n (samePairs_m a b_ n) a b_ x5 = some r := h
    intro m0 hm0
    refine rd hm0 fun m0 hm0 => ?_
    unfold samePairs_l1 at h
    rcases bifSome h with ⟨c0, h⟩ | ⟨c0, h⟩
    · obtain ⟨⟨g0, g1⟩, h⟩ := guardSome h
      have p := H0.b 14 c0 |>.g s_samePairs_6 |>.g g0 |>.g g1
      rcases bifSome h with ⟨c1, h⟩ | ⟨c1, h⟩
      · obtain rfl := Option.some.inj h
        exact ee sch_samePairs [4] [] (p.b 25 c1)
      · obtain ⟨g2, h⟩ := guardSome h
        exact gg sch_samePairs [] (p.b 25 c1 |>.w 16 g2) (hself _ _ h m0 hm0)
    · obtain rfl := Option.some.inj h
      exact ee sch_samePairs [4] [] (H0.b 14 c0)
theorem samePairs_ok {n : Nat} {a b_ : List (Int × Int)} {r : Bool} (h : samePairs n a b_ = some r) : ES Tryd.prog GG 19 [.sl 2 a.length (rowE iiC a), .sl 2 b_.length (rowE iiC b_)] [] (.bool r) [] true := by
  refine ot Tryd.func19 fun B N => ?_
  have hself := samePairs_all B N a b_ n
  unfold samePairs at h
  unfold samePairs_l0 at h
  rcases bifSome h with ⟨c0, h⟩ | ⟨c0, h⟩
  · obtain rfl := Option.some.inj h
    exact ee sch_samePairs [4] [] (H0.b 10 c0)
  · exact gg sch_samePairs [] (H0.b 10 c0) (en n (hself _ _ h n (Nat.le_refl _)))
inductive gvalidPt where
  | l1 (x15 : Int)
def gvalid_l1 (n : Nat) (self : gvalidPt → Option Int) (g_ : List (List Int)) (sets : List (List Bool)) (x15 : Int) : Option Int :=
  bif (decide (x15 < (sets.length : Int))) then
   if 0 ≤ x15 ∧ x15 < (sets.length : Int) then
    bif ((((sets.getD ((x15).toNat) []).length : Nat) : Int) != (g_.length : Int)) then
     some 1
    else
     if R64 (x15 + 1) then
      self (.l1 (x15 + 1))
     else none
   else none
  else
   some 0
def gvalid_l0 (n : Nat) (self : gvalidPt → Option Int) (g_ : List (List Int)) (sets : List (List Bool)) : Option Int :=
  (gcheck n g_).bind fun y1 =>
   bif (y1 != 0) then
    some y1
   else
    self (.l1 0)
def gvalid_m (g_ : List (List Int)) (sets : List (List Bool)) : Nat → gvalidPt → Option Int
  | 0, _ => none
  | n + 1, .l1 x15 => gvalid_l1 n (gvalid_m g_ sets n) g_ sets x15
def gvalid (n : Nat) (g_ : List (List Int)) (sets : List (List Bool)) : Option Int := gvalid_l0 n (gvalid_m g_ sets n) g_ sets
/-- What the points stand for. -/
def gvalid_at (n : Nat) (B : Nat) (N : Yard Tryd.prog GG 0) (g_ : List (List Int)) (sets : List (List Bool)) (r : Int) : gvalidPt → Prop
  | .l1 x15 => ∀ m0 : Nat, n ≤ m0 → TrK Tryd.prog GG Fence.wide (some B) 0 N (Fin Tryd.prog Tryd.f77 0 (.i r) []) (toN m0 (atNC (bodyC Tryd.f77) 0 [])) ⟨frm 25 [(0, .sl 1 g_.length (rowE intsC g_)), (13, .sl 1 sets.length (rowE boolsC sets)), (14, .i (sets.length : Int)), (15, .i x15)], []⟩
theorem gvalid_all (B : Nat) (N : Yard Tryd.prog GG 0) (g_ : List (List Int)) (sets : List (List Bool)) : ∀ (n : Nat) (pt : gvalidPt) (r : Int), gvalid_m g_ sets n pt = some r → gvalid_at n B N g_ sets r pt := by
  intro n; induction n with
  | zero => intro _ _ h; cases h
  | succ n hself =>
   intro pt r h
   cases pt
   case l1 x15 =>
    have h : gvalid_l1 n (gvalid_m g_ sets n) g_ sets x15 = some r := h
    intro m0 hm0
    refine rd hm0 fun m0 hm0 => ?_
    unfold gvalid_l1 at h
    rcases bifSome h with ⟨c0, h⟩ | ⟨c0, h⟩
    · obtain ⟨g0, h⟩ := guardSome h
      have p := H0.b 16 c0 |>.g g0
      rcases bifSome h with ⟨c1, h⟩ | ⟨c1, h⟩
      · obtain rfl := Option.some.inj h
        exact ee sch0 [4] [] (p.b 23 c1)
      · obtain ⟨g1, h⟩ := guardSome h
        exact gg sch0 [] (p.b 23 c1 |>.w 24 g1) (hself _ _ h m0 hm0)
    · obtain rfl := Option.some.inj h
      exact ee sch0 [4] [] (H0.b 16 c0)
theorem gvalid_ok {n : Nat} {g_ : List (List Int)} {sets : List (List Bool)} {r : Int} (h : gvalid n g_ sets = some r) : ES Tryd.prog GG 77 [.sl 1 g_.length (rowE intsC g_), .sl 1 sets.length (rowE boolsC sets)] [] (.i r) [] true := by
  refine ot Tryd.func77 fun B N => ?_
  have hself := gvalid_all B N g_ sets n
  unfold gvalid at h
  unfold gvalid_l0 at h
  obtain ⟨y1, hy1, h⟩ := bindSome h
  have p := H0.c (fb (gcheck_ok hy1) [])
  rcases bifSome h with ⟨c0, h⟩ | ⟨c0, h⟩
  · obtain rfl := Option.some.inj h
    exact ee sch0 [4] [] (p.b 11 c0)
  · exact gg sch0 [] (p.b 11 c0) (en n (hself _ _ h n (Nat.le_refl _)))
end Go.Proofs.YtekkngkphejfcaaDoor
namespace Go.Proofs.YtekkngkphejfcaaDoor
open Go.RowKit
set_option maxRecDepth 100000
set_option maxHeartbeats 40000000
theorem s_loseW_0 : SOk (regF Tryd.f58 0) [] (List.range 18) [18] := by unfold SOk; kernel_rfl
def sch_loseW : Sch := fun i => match i with
  | 0 => .ord [] (List.range 18) [18]
  | _ => .no
def loseW_l0 (n : Nat) (cell ss : Int) (c : ConsD) (q : ProbD) (pos : List Int) (ln : Nat) (lost : List Int) : Option ((List Int)) :=
  if (0 ≤ cell ∧ cell < (ln : Int)) ∧ 0 + ((cell).toNat) < lost.length ∧ (0 ≤ cell ∧ cell < (pos.length : Int)) then
   some (lost.set (0 + ((cell).toNat)) (bits .or .i64 (lost.getD (0 + ((cell).toNat)) 0) (bits .and .i64 (pos.getD ((cell).toNat) 0) ss)))
  else none
def loseW (n : Nat) (cell ss : Int) (c : ConsD) (q : ProbD) (pos : List Int) (ln : Nat) (lost : List Int) : Option ((List Int)) := loseW_l0 n cell ss c q pos ln lost
theorem loseW_ok {n : Nat} {cell ss : Int} {c : ConsD} {q : ProbD} {pos : List Int} {ln : Nat} {lost : List Int} {r : (List Int)} (h : loseW n cell ss c q pos ln lost = some r) : ES Tryd.prog GG 58 [.ref 0 0, .i cell, .i ss] [some (.cells (consC c ++ probC q ++ [.ints pos, .msl 1 1 0 ln])), some (.ints lost)] (.tup 0 (fun j => ([] : List DV).getD j .any)) [some (.cells (consC c ++ probC q ++ [.ints pos, .msl 1 1 0 ln])), some (.ints r)] false := by
  refine ot Tryd.func58 fun B N => ?_
  unfold loseW at h
  unfold loseW_l0 at h
  obtain ⟨⟨g0, g1, g2⟩, h⟩ := guardSome h
  cases h
  exact ee sch_loseW [] [0, 1] (H0.g s_loseW_0 |>.g g0 |>.g g1 |>.g g2 |>.g g0 |>.g g1)
theorem s_onlyW_0 : SOk (regF Tryd.f59 0) [] (List.range 22) [22] := by unfold SOk; kernel_rfl
def sch_onlyW : Sch := fun i => match i with
  | 0 => .ord [] (List.range 22) [22]
  | _ => .no
def onlyW_l0 (n : Nat) (cell : Int) (c : ConsD) (q : ProbD) (pos : List Int) (ln : Nat) (lost : List Int) : Option ((List Int)) :=
  if (0 ≤ cell ∧ cell < (ln : Int)) ∧ 0 + ((cell).toNat) < lost.length ∧ (0 ≤ cell ∧ cell < (pos.length : Int)) then
   some (lost.set (0 + ((cell).toNat)) (bits .or .i64 (lost.getD (0 + ((cell).toNat)) 0) (bits .andNot .i64 (pos.getD ((cell).toNat) 0) c.set)))
  else none
def onlyW (n : Nat) (cell : Int) (c : ConsD) (q : ProbD) (pos : List Int) (ln : Nat) (lost : List Int) : Option ((List Int)) := onlyW_l0 n cell c q pos ln lost
theorem onlyW_ok {n : Nat} {cell : Int} {c : ConsD} {q : ProbD} {pos : List Int} {ln : Nat} {lost : List Int} {r : (List Int)} (h : onlyW n cell c q pos ln lost = some r) : ES Tryd.prog GG 59 [.ref 0 0, .i cell] [some (.cells (consC c ++ probC q ++ [.ints pos, .msl 1 1 0 ln])), some (.ints lost)] (.tup 0 (fun j => ([] : List DV).getD j .any)) [some (.cells (consC c ++ probC q ++ [.ints pos, .msl 1 1 0 ln])), some (.ints r)] false := by
  refine ot Tryd.func59 fun B N => ?_
  unfold onlyW at h
  unfold onlyW_l0 at h
  obtain ⟨⟨g0, g1, g2⟩, h⟩ := guardSome h
  cases h
  exact ee sch_onlyW [] [0, 1] (H0.g s_onlyW_0 |>.g g0 |>.g g1 |>.g g2 |>.g g0 |>.g g1)
inductive diffWPt where
  | l1 (x3 x4 x17 : Int)
  | l2 (x3 x4 x48 : Int) (o1 : List Int)
def diffW_l1 (n : Nat) (self : diffWPt → Option (Bool × (List Int))) (c : ConsD) (q : ProbD) (pos : List Int) (ln : Nat) (lost : List Int) (x3 x4 x17 : Int) : Option (Bool × (List Int)) :=
  bif (decide (x17 < (c.cells.length : Int))) then
   if (0 ≤ x17 ∧ x17 < (c.cells.length : Int)) ∧ (0 ≤ (c.cells.getD ((x17).toNat) 0) ∧ (c.cells.getD ((x17).toNat) 0) < (pos.length : Int)) ∧ R64 ((pos.getD ((c.cells.getD ((x17).toNat) 0).toNat) 0) - 1) then
    bif ((bits .and .i64 (pos.getD ((c.cells.getD ((x17).toNat) 0).toNat) 0) ((pos.getD ((c.cells.getD ((x17).toNat) 0).toNat) 0) - 1)) == 0) then
     if R64 (x17 + 1) then
      self (.l1 (bits .or .i64 x3 (pos.getD ((c.cells.getD ((x17).toNat) 0).toNat) 0)) (bits .or .i64 x4 (bits .and .i64 x3 (pos.getD ((c.cells.getD ((x17).toNat) 0).toNat) 0))) (x17 + 1))
     else none
    else
     if R64 (x17 + 1) then
      self (.l1 x3 x4 (x17 + 1))
     else none
   else none
  else
   self (.l2 x3 x4 0 lost)
def diffW_l2 (n : Nat) (self : diffWPt → Option (Bool × (List Int))) (c : ConsD) (q : ProbD) (pos : List Int) (ln : Nat) (lost : List Int) (x3 x4 x48 : Int) (o1 : List Int) : Option (Bool × (List Int)) :=
  bif (decide (x48 < (c.cells.length : Int))) then
   if (0 ≤ x48 ∧ x48 < (c.cells.length : Int)) ∧ (0 ≤ (c.cells.getD ((x48).toNat) 0) ∧ (c.cells.getD ((x48).toNat) 0) < (pos.length : Int)) ∧ R64 ((pos.getD ((c.cells.getD ((x48).toNat) 0).toNat) 0) - 1) then
    bif ((bits .and .i64 (pos.getD ((c.cells.getD ((x48).toNat) 0).toNat) 0) ((pos.getD ((c.cells.getD ((x48).toNat) 0).toNat) 0) - 1)) == 0) then
     (loseW n (c.cells.getD ((x48).toNat) 0) (bits .or .i64 (bits .andNot .i64 x3 (pos.getD ((c.cells.getD ((x48).toNat) 0).toNat) 0)) x4) c q pos ln o1).bind fun y1 =>
      if R64 (x48 + 1) then
       self (.l2 x3 x4 (x48 + 1) y1)
      else none
    else
     (loseW n (c.cells.getD ((x48).toNat) 0) x3 c q pos ln o1).bind fun y1 =>
      if R64 (x48 + 1) then
       self (.l2 x3 x4 (x48 + 1) y1)
      else none
   else none
  else
   some (true, o1)
def diffW_l0 (n : Nat) (self : diffWPt → Option (Bool × (List Int))) (c : ConsD) (q : ProbD) (pos : List Int) (ln : Nat) (lost : List Int) : Option (Bool × (List Int)) :=
  self (.l1 0 0 0)
def diffW_m (c : ConsD) (q : ProbD) (pos : List Int) (ln : Nat) (lost : List Int) : Nat → diffWPt → Option (Bool × (List Int))
  | 0, _ => none
  | n + 1, .l1 x3 x4 x17 => diffW_l1 n (diffW_m c q pos ln lost n) c q pos ln lost x3 x4 x17
  | n + 1, .l2 x3 x4 x48 o1 => diffW_l2 n (diffW_m c q pos ln lost n) c q pos ln lost x3 x4 x48 o1
def diffW (n : Nat) (c : ConsD) (q : ProbD) (pos : List Int) (ln : Nat) (lost : List Int) : Option (Bool × (List Int)) := diffW_l0 n (diffW_m c q pos ln lost n) c q pos ln lost
/-- What the points stand for. -/
def diffW_at (n : Nat) (B : Nat) (N : Yard Tryd.prog GG 2) (c : ConsD) (q : ProbD) (pos : List Int) (ln : Nat) (lost : List Int) (r : Bool × (List Int)) : diffWPt → Prop
  | .l1 x3 x4 x17 => ∀ m0 : Nat, n ≤ m0 → TrK Tryd.prog GG Fence.wide (some B) 2 N (Fin Tryd.prog Tryd.f40 2 (.bool r.1) [some (.cells (consC c ++ probC q ++ [.ints pos, .msl 1 1 0 ln])), some (.ints r.2)]) (toN m0 (atNC (bodyC Tryd.f40) 0 [])) ⟨frm 77 [(0, .ref 0 0), (3, .i x3), (4, .i x4), (15, .ints c.cells), (16, .i (c.cells.length : Int)), (17, .i x17)], [some (.cells (consC c ++ probC q ++ [.ints pos, .msl 1 1 0 ln])), some (.ints lost)]⟩
  | .l2 x3 x4 x48 o1 => ∀ m0 : Nat, n ≤ m0 → TrK Tryd.prog GG Fence.wide (some B) 2 N (Fin Tryd.prog Tryd.f40 2 (.bool r.1) [some (.cells (consC c ++ probC q ++ [.ints pos, .msl 1 1 0 ln])), some (.ints r.2)]) (toN m0 (atNC (bodyC Tryd.f40) 2 [])) ⟨frm 77 [(0, .ref 0 0), (3, .i x3), (4, .i x4), (46, .ints c.cells), (47, .i (c.cells.length : Int)), (48, .i x48)], [some (.cells (consC c ++ probC q ++ [.ints pos, .msl 1 1 0 ln])), some (.ints o1)]⟩
theorem diffW_all (B : Nat) (N : Yard Tryd.prog GG 2) (c : ConsD) (q : ProbD) (pos : List Int) (ln : Nat) (lost : List Int) : ∀ (n : Nat) (pt : diffWPt) (r : Bool × (List Int)), diffW_m c q pos ln lost n pt = some r → diffW_at n B N c q pos ln lost r pt := by
  intro n; induction n with
  | zero => intro _ _ h; cases h
  | succ n hself =>
   intro pt r h
   cases pt
   case l1 x3 x4 x17 =>
    have h : diffW_l1 n (diffW_m c q pos ln lost n) c q pos ln lost x3 x4 x17 = some r := h
    intro m0 hm0
    refine rd hm0 fun m0 hm0 => ?_
    unfold diffW_l1 at h
    rcases bifSome h with ⟨c0, h⟩ | ⟨c0, h⟩
    · obtain ⟨⟨g0, g1, g2⟩, h⟩ := guardSome h
      have p := H0.b 18 c0 |>.g g0 |>.g g1 |>.w 30 g2
      rcases bifSome h with ⟨c1, h⟩ | ⟨c1, h⟩
      · obtain ⟨g3, h⟩ := guardSome h
        exact gg sch0 [0, 1] (p.b 32 c1 |>.w 41 g3) (hself _ _ h m0 hm0)
      · obtain ⟨g3, h⟩ := guardSome h
        exact gg sch0 [0, 1] (p.b 32 c1 |>.w 41 g3) (hself _ _ h m0 hm0)
    · exact gg sch0 [0, 1] (H0.b 18 c0) (en n (hself _ _ h n (Nat.le_refl _)))
   case l2 x3 x4 x48 o1 =>
    have h : diffW_l2 n (diffW_m c q pos ln lost n) c q pos ln lost x3 x4 x48 o1 = some r := h
    intro m0 hm0
    refine rd hm0 fun m0 hm0 => ?_
    unfold diffW_l2 at h
    rcases bifSome h with ⟨c0, h⟩ | ⟨c0, h⟩
    · obtain ⟨⟨g0, g1, g2⟩, h⟩ := guardSome h
      have p := H0.b 49 c0 |>.g g0 |>.g g1 |>.w 61 g2
      rcases bifSome h with ⟨c1, h⟩ | ⟨c1, h⟩
      · obtain ⟨y1, hy1, h⟩ := bindSome h
        obtain ⟨g3, h⟩ := guardSome h
        exact gg sch0 [0, 1] (p.b 63 c1 |>.c (em (loseW_ok hy1) [0, 1] [some (.cells (consC c ++ probC q ++ [.ints pos, .msl 1 1 0 ln])), some (.ints o1)]) |>.w 76 g3) (hself _ _ h m0 hm0)
      · obtain ⟨y1, hy1, h⟩ := bindSome h
        obtain ⟨g3, h⟩ := guardSome h
        exact gg sch0 [0, 1] (p.b 63 c1 |>.c (em (loseW_ok hy1) [0, 1] [some (.cells (consC c ++ probC q ++ [.ints pos, .msl 1 1 0 ln])), some (.ints o1)]) |>.w 76 g3) (hself _ _ h m0 hm0)
    · cases h
      exact ee sch0 [2] [0, 1] (H0.b 49 c0)
theorem diffW_ok {n : Nat} {c : ConsD} {q : ProbD} {pos : List Int} {ln : Nat} {lost : List Int} {r : Bool × (List Int)} (h : diffW n c q pos ln lost = some r) : ES Tryd.prog GG 40 [.ref 0 0] [some (.cells (consC c ++ probC q ++ [.ints pos, .msl 1 1 0 ln])), some (.ints lost)] (.bool r.1) [some (.cells (consC c ++ probC q ++ [.ints pos, .msl 1 1 0 ln])), some (.ints r.2)] false := by
  refine ot Tryd.func40 fun B N => ?_
  have hself := diffW_all B N c q pos ln lost n
  unfold diffW at h
  unfold diffW_l0 at h
  exact gg sch0 [0, 1] H0 (en n (hself _ _ h n (Nat.le_refl _)))
theorem s_countW_5 : SOk (regF Tryd.f41 5) [] (List.range 15) [] := by unfold SOk; kernel_rfl
theorem s_countW_8 : SOk (regF Tryd.f41 8) [] (List.range 15) [] := by unfold SOk; kernel_rfl
theorem s_countW_16 : SOk (regF Tryd.f41 16) [] (List.range 23) [] := by unfold SOk; kernel_rfl
theorem s_countW_18 : SOk (regF Tryd.f41 18) [] (List.range 23) [] := by unfold SOk; kernel_rfl
def sch_countW : Sch := fun i => match i with
  | 5 => .ord [] (List.range 15) []
  | 8 => .ord [] (List.range 15) []
  | 16 => .ord [] (List.range 23) []
  | 18 => .ord [] (List.range 23) []
  | _ => .no
inductive countWPt where
  | l1 (x3 x4 x15 : Int)
  | l2 (x3 x4 x78 : Int) (o1 : List Int)
def countW_l1 (n : Nat) (self : countWPt → Option (Bool × (List Int))) (c : ConsD) (q : ProbD) (pos : List Int) (ln : Nat) (lost : List Int) (x3 x4 x15 : Int) : Option (Bool × (List Int)) :=
  bif (decide (x15 < (c.cells.length : Int))) then
   if (0 ≤ x15 ∧ x15 < (c.cells.length : Int)) ∧ (0 ≤ (c.cells.getD ((x15).toNat) 0) ∧ (c.cells.getD ((x15).toNat) 0) < (pos.length : Int)) then
    bif ((bits .andNot .i64 (pos.getD ((c.cells.getD ((x15).toNat) 0).toNat) 0) c.set) == 0) then
     if R64 (x3 + 1) ∧ R64 (x4 + 1) ∧ R64 (x15 + 1) then
      self (.l1 (x3 + 1) (x4 + 1) (x15 + 1))
     else none
    else
     bif ((bits .and .i64 (pos.getD ((c.cells.getD ((x15).toNat) 0).toNat) 0) c.set) != 0) then
      if R64 (x4 + 1) ∧ R64 (x15 + 1) then
       self (.l1 x3 (x4 + 1) (x15 + 1))
      else none
     else
      if R64 (x15 + 1) then
       self (.l1 x3 x4 (x15 + 1))
      else none
   else none
  else
   bif (decide (x3 > c.hi)) then
    some (false, lost)
   else
    bif (decide (x4 < c.lo)) then
     some (false, lost)
    else
     self (.l2 x3 x4 0 lost)
def countW_l2 (n : Nat) (self : countWPt → Option (Bool × (List Int))) (c : ConsD) (q : ProbD) (pos : List Int) (ln : Nat) (lost : List Int) (x3 x4 x78 : Int) (o1 : List Int) : Option (Bool × (List Int)) :=
  bif (decide (x78 < (c.cells.length : Int))) then
   if 0 ≤ x78 ∧ x78 < (c.cells.length : Int) then
    bif (x3 == c.hi) then
     if 0 ≤ (c.cells.getD ((x78).toNat) 0) ∧ (c.cells.getD ((x78).toNat) 0) < (pos.length : Int) then
      bif ((bits .andNot .i64 (pos.getD ((c.cells.getD ((x78).toNat) 0).toNat) 0) c.set) != 0) then
       (loseW n (c.cells.getD ((x78).toNat) 0) c.set c q pos ln o1).bind fun y1 =>
        bif (x4 == c.lo) then
         bif ((bits .and .i64 (pos.getD ((c.cells.getD ((x78).toNat) 0).toNat) 0) c.set) != 0) then
          (onlyW n (c.cells.getD ((x78).toNat) 0) c q pos ln y1).bind fun y2 =>
           if R64 (x78 + 1) then
            self (.l2 x3 x4 (x78 + 1) y2)
           else none
         else
          if R64 (x78 + 1) then
           self (.l2 x3 x4 (x78 + 1) y1)
          else none
        else
         if R64 (x78 + 1) then
          self (.l2 x3 x4 (x78 + 1) y1)
         else none
      else
       bif (x4 == c.lo) then
        bif ((bits .and .i64 (pos.getD ((c.cells.getD ((x78).toNat) 0).toNat) 0) c.set) != 0) then
         (onlyW n (c.cells.getD ((x78).toNat) 0) c q pos ln o1).bind fun y1 =>
          if R64 (x78 + 1) then
           self (.l2 x3 x4 (x78 + 1) y1)
          else none
        else
         if R64 (x78 + 1) then
          self (.l2 x3 x4 (x78 + 1) o1)
         else none
       else
        if R64 (x78 + 1) then
         self (.l2 x3 x4 (x78 + 1) o1)
        else none
     else none
    else
     bif (x4 == c.lo) then
      if 0 ≤ (c.cells.getD ((x78).toNat) 0) ∧ (c.cells.getD ((x78).toNat) 0) < (pos.length : Int) then
       bif ((bits .and .i64 (pos.getD ((c.cells.getD ((x78).toNat) 0).toNat) 0) c.set) != 0) then
        (onlyW n (c.cells.getD ((x78).toNat) 0) c q pos ln o1).bind fun y1 =>
         if R64 (x78 + 1) then
          self (.l2 x3 x4 (x78 + 1) y1)
         else none
       else
        if R64 (x78 + 1) then
         self (.l2 x3 x4 (x78 + 1) o1)
        else none
      else none
     else
      if R64 (x78 + 1) then
       self (.l2 x3 x4 (x78 + 1) o1)
      else none
   else none
  else
   some (true, o1)
def countW_l0 (n : Nat) (self : countWPt → Option (Bool × (List Int))) (c : ConsD) (q : ProbD) (pos : List Int) (ln : Nat) (lost : List Int) : Option (Bool × (List Int)) :=
  self (.l1 0 0 0)
def countW_m (c : ConsD) (q : ProbD) (pos : List Int) (ln : Nat) (lost : List Int) : Nat → countWPt → Option (Bool × (List Int))
  | 0, _ => none
  | n + 1, .l1 x3 x4 x15 => countW_l1 n (countW_m c q pos ln lost n) c q pos ln lost x3 x4 x15
  | n + 1, .l2 x3 x4 x78 o1 => countW_l2 n (countW_m c q pos ln lost n) c q pos ln lost x3 x4 x78 o1
def countW (n : Nat) (c : ConsD) (q : ProbD) (pos : List Int) (ln : Nat) (lost : List Int) : Option (Bool × (List Int)) := countW_l0 n (countW_m c q pos ln lost n) c q pos ln lost
/-- What the points stand for. -/
def countW_at (n : Nat) (B : Nat) (N : Yard Tryd.prog GG 2) (c : ConsD) (q : ProbD) (pos : List Int) (ln : Nat) (lost : List Int) (r : Bool × (List Int)) : countWPt → Prop
  | .l1 x3 x4 x15 => ∀ m0 : Nat, n ≤ m0 → TrK Tryd.prog GG Fence.wide (some B) 2 N (Fin Tryd.prog Tryd.f41 2 (.bool r.1) [some (.cells (consC c ++ probC q ++ [.ints pos, .msl 1 1 0 ln])), some (.ints r.2)]) (toN m0 (atNC (bodyC Tryd.f41) 0 [])) ⟨frm 140 [(0, .ref 0 0), (3, .i x3), (4, .i x4), (13, .ints c.cells), (14, .i (c.cells.length : Int)), (15, .i x15)], [some (.cells (consC c ++ probC q ++ [.ints pos, .msl 1 1 0 ln])), some (.ints lost)]⟩
  | .l2 x3 x4 x78 o1 => ∀ m0 : Nat, n ≤ m0 → TrK Tryd.prog GG Fence.wide (some B) 2 N (Fin Tryd.prog Tryd.f41 2 (.bool r.1) [some (.cells (consC c ++ probC q ++ [.ints pos, .msl 1 1 0 ln])), some (.ints r.2)]) (toN m0 (atNC (bodyC Tryd.f41) 3 [])) ⟨frm 140 [(0, .ref 0 0), (3, .i x3), (4, .i x4), (76, .ints c.cells), (77, .i (c.cells.length : Int)), (78, .i x78)], [some (.cells (consC c ++ probC q ++ [.ints pos, .msl 1 1 0 ln])), some (.ints o1)]⟩
theorem countW_all (B : Nat) (N : Yard Tryd.prog GG 2) (c : ConsD) (q : ProbD) (pos : List Int) (ln : Nat) (lost : List Int) : ∀ (n : Nat) (pt : countWPt) (r : Bool × (List Int)), countW_m c q pos ln lost n pt = some r → countW_at n B N c q pos ln lost r pt := by
  intro n; induction n with
  | zero => intro _ _ h; cases h
  | succ n hself =>
   intro pt r h
   cases pt
   case l1 x3 x4 x15 =>
    have h : countW_l1 n (countW_m c q pos ln lost n) c q pos ln lost x3 x4 x15 = some r := h
    intro m0 hm0
    refine rd hm0 fun m0 hm0 => ?_
    unfold countW_l1 at h
    rcases bifSome h with ⟨c0, h⟩ | ⟨c0, h⟩
    · obtain ⟨⟨g0, g1⟩, h⟩ := guardSome h
      have p := H0.b 16 c0 |>.g g0 |>.g s_countW_5 |>.g g1
      rcases bifSome h with ⟨c1, h⟩ | ⟨c1, h⟩
      · obtain ⟨⟨g2, g3, g4⟩, h⟩ := guardSome h
        exact gg sch_countW [0, 1] (p.b 33 c1 |>.w 35 g2 |>.w 37 g3 |>.w 55 g4) (hself _ _ h m0 hm0)
      · have p := p.b 33 c1 |>.g s_countW_8 |>.g g1
        rcases bifSome h with ⟨c2, h⟩ | ⟨c2, h⟩
        · obtain ⟨⟨g2, g3⟩, h⟩ := guardSome h
          exact gg sch_countW [0, 1] (p.b 52 c2 |>.w 54 g2 |>.w 55 g3) (hself _ _ h m0 hm0)
        · obtain ⟨g2, h⟩ := guardSome h
          exact gg sch_countW [0, 1] (p.b 52 c2 |>.w 55 g2) (hself _ _ h m0 hm0)
    · have p := H0.b 16 c0
      rcases bifSome h with ⟨c1, h⟩ | ⟨c1, h⟩
      · cases h
        exact ee sch_countW [2] [0, 1] (p.b 62 c1)
      · have p := p.b 62 c1
        rcases bifSome h with ⟨c2, h⟩ | ⟨c2, h⟩
        · cases h
          exact ee sch_countW [2] [0, 1] (p.b 70 c2)
        · exact gg sch_countW [0, 1] (p.b 70 c2) (en n (hself _ _ h n (Nat.le_refl _)))
   case l2 x3 x4 x78 o1 =>
    have h : countW_l2 n (countW_m c q pos ln lost n) c q pos ln lost x3 x4 x78 o1 = some r := h
    intro m0 hm0
    refine rd hm0 fun m0 hm0 => ?_
    unfold countW_l2 at h
    rcases bifSome h with ⟨c0, h⟩ | ⟨c0, h⟩
    · obtain ⟨g0, h⟩ := guardSome h
      have p := H0.b 79 c0 |>.g g0 |>.g s_countW_16
      rcases bifSome h with ⟨c1, h⟩ | ⟨c1, h⟩
      · obtain ⟨g1, h⟩ := guardSome h
        have p := p.b 88 c1 |>.g g1
        rcases bifSome h with ⟨c2, h⟩ | ⟨c2, h⟩
        · obtain ⟨y1, hy1, h⟩ := bindSome h
          have p := p.b 103 c2 |>.c (em (loseW_ok hy1) [0, 1] [some (.cells (consC c ++ probC q ++ [.ints pos, .msl 1 1 0 ln])), some (.ints o1)]) |>.g s_countW_18
          rcases bifSome h with ⟨c3, h⟩ | ⟨c3, h⟩
          · have p := p.b 119 c3 |>.g g1
            rcases bifSome h with ⟨c4, h⟩ | ⟨c4, h⟩
            · obtain ⟨y2, hy2, h⟩ := bindSome h
              obtain ⟨g2, h⟩ := guardSome h
              exact gg sch_countW [0, 1] (p.b 134 c4 |>.c (em (onlyW_ok hy2) [0, 1] [some (.cells (consC c ++ probC q ++ [.ints pos, .msl 1 1 0 ln])), some (.ints y1)]) |>.w 139 g2) (hself _ _ h m0 hm0)
            · obtain ⟨g2, h⟩ := guardSome h
              exact gg sch_countW [0, 1] (p.b 134 c4 |>.w 139 g2) (hself _ _ h m0 hm0)
          · obtain ⟨g2, h⟩ := guardSome h
            exact gg sch_countW [0, 1] (p.b 119 c3 |>.w 139 g2) (hself _ _ h m0 hm0)
        · have p := p.b 103 c2 |>.g s_countW_18
          rcases bifSome h with ⟨c3, h⟩ | ⟨c3, h⟩
          · have p := p.b 119 c3 |>.g g1
            rcases bifSome h with ⟨c4, h⟩ | ⟨c4, h⟩
            · obtain ⟨y1, hy1, h⟩ := bindSome h
              obtain ⟨g2, h⟩ := guardSome h
              exact gg sch_countW [0, 1] (p.b 134 c4 |>.c (em (onlyW_ok hy1) [0, 1] [some (.cells (consC c ++ probC q ++ [.ints pos, .msl 1 1 0 ln])), some (.ints o1)]) |>.w 139 g2) (hself _ _ h m0 hm0)
            · obtain ⟨g2, h⟩ := guardSome h
              exact gg sch_countW [0, 1] (p.b 134 c4 |>.w 139 g2) (hself _ _ h m0 hm0)
          · obtain ⟨g2, h⟩ := guardSome h
            exact gg sch_countW [0, 1] (p.b 119 c3 |>.w 139 g2) (hself _ _ h m0 hm0)
      · have p := p.b 88 c1 |>.g s_countW_18
        rcases bifSome h with ⟨c2, h⟩ | ⟨c2, h⟩
        · obtain ⟨g1, h⟩ := guardSome h
          have p := p.b 119 c2 |>.g g1
          rcases bifSome h with ⟨c3, h⟩ | ⟨c3, h⟩
          · obtain ⟨y1, hy1, h⟩ := bindSome h
            obtain ⟨g2, h⟩ := guardSome h
            exact gg sch_countW [0, 1] (p.b 134 c3 |>.c (em (onlyW_ok hy1) [0, 1] [some (.cells (consC c ++ probC q ++ [.ints pos, .msl 1 1 0 ln])), some (.ints o1)]) |>.w 139 g2) (hself _ _ h m0 hm0)
          · obtain ⟨g2, h⟩ := guardSome h
            exact gg sch_countW [0, 1] (p.b 134 c3 |>.w 139 g2) (hself _ _ h m0 hm0)
        · obtain ⟨g1, h⟩ := guardSome h
          exact gg sch_countW [0, 1] (p.b 119 c2 |>.w 139 g1) (hself _ _ h m0 hm0)
    · cases h
      exact ee sch_countW [2] [0, 1] (H0.b 79 c0)
theorem countW_ok {n : Nat} {c : ConsD} {q : ProbD} {pos : List Int} {ln : Nat} {lost : List Int} {r : Bool × (List Int)} (h : countW n c q pos ln lost = some r) : ES Tryd.prog GG 41 [.ref 0 0] [some (.cells (consC c ++ probC q ++ [.ints pos, .msl 1 1 0 ln])), some (.ints lost)] (.bool r.1) [some (.cells (consC c ++ probC q ++ [.ints pos, .msl 1 1 0 ln])), some (.ints r.2)] false := by
  refine ot Tryd.func41 fun B N => ?_
  have hself := countW_all B N c q pos ln lost n
  unfold countW at h
  unfold countW_l0 at h
  exact gg sch_countW [0, 1] H0 (en n (hself _ _ h n (Nat.le_refl _)))
end Go.Proofs.YtekkngkphejfcaaDoor
namespace Go.Proofs.YtekkngkphejfcaaDoor
open Go.RowKit
set_option maxRecDepth 100000
set_option maxHeartbeats 40000000
def symbolsF_l0 (n : Nat) (set_ : Int) : Option Unit :=
  some ()
def symbolsF (n : Nat) (set_ : Int) : Option Unit := symbolsF_l0 n set_
theorem symbolsF_ok {n : Nat} (set_ : Int) {r : Unit} (h : symbolsF n set_ = some r) : ES Tryd.prog GG 27 [.i set_] [] (.fn 50 1 (L1 [.ref 0 0])) [some (.cells [.i set_])] true := by
  refine ot Tryd.func27 fun B N => ?_
  unfold symbolsF at h
  unfold symbolsF_l0 at h
  cases h
  exact ee sch0 [2] [0] H0
theorem symbols_it {x : Int} (hx : 0 ≤ x ∧ x < 9223372036854775808) (h : DH) : ES Tryd.prog GG 27 [.i x] h (.it h.length) (h ++ [some (.iter ((symsI x).map encI))]) true := by
  refine ES.iterOf (symbolsF_ok (n := 0) x (r := ()) rfl) rfl (by kernel_rfl) (fun args W => ?_) (fun w b o u hg hng hb hc hr => symbols_law hx w b o u hg hng hb hc hr) rfl (fun b hb => ?_) h
  · exact enterOk Tryd.func50 (by kernel_rfl) (by kernel_rfl) args W
  · rw [hb]; decide
def t_endsW_4 : ST := .rd 0 (.rd 1 (.rd 2 (.rd 3 (.rd 4 (.rd 5 (.rd 6 (.rd 7 (.rd 8 (.rd 9 (.rd 10 (.rd 11 (.rd 12 (.rd 13 (.rd 14 (.rd 15 (.rd 16 (.rd 17 (.rd 18 (.rd 19 (.ef 20 (.ef 21 (.fin [] [4, 5]) (.no)) (.no)))))))))))))))))))))
theorem s_endsW_4 : TOk (regF Tryd.f60 4) [20] t_endsW_4 := by unfold TOk; kernel_rfl
def t_endsW_5 : ST := .rd 0 (.rd 1 (.ef 2 (.ef 3 (.fin [] [4, 5]) (.no)) (.no)))
theorem s_endsW_5 : TOk (regF Tryd.f60 5) [2] t_endsW_5 := by unfold TOk; kernel_rfl
def sch_endsW : Sch := fun i => match i with
  | 4 => .tre [20] t_endsW_4
  | 5 => .tre [2] t_endsW_5
  | _ => .no
def hp_endsW_0 (c : ConsD) (q : ProbD) (pos : List Int) (ln : Nat) (lost : List Int) : DH := [some (.cells (consC c ++ probC q ++ [.ints pos, .msl 1 1 0 ln])), some (.ints lost), some (.cells [.ref 0 0]), some (.cells [.i 100]), some (.cells [.i (-1)])]
def hp_endsW_1 (c : ConsD) (q : ProbD) (pos : List Int) (ln : Nat) (lost : List Int) (ss : Int) : DH := [some (.cells (consC c ++ probC q ++ [.ints pos, .msl 1 1 0 ln])), some (.ints lost), some (.cells [.ref 0 0]), some (.cells [.i 100]), some (.cells [.i (-1)]), some (.iter ((symsI ss).map encI))]
def tgt_endsW_2 (c : ConsD) (q : ProbD) (pos : List Int) (ln : Nat) (lost : List Int) (y1_0_0 y1_0_1 : Int) : St := ⟨(frm 32 [(4, .ref 3 0), (5, .ref 4 0)]), ([some (.cells (consC c ++ probC q ++ [.ints pos, .msl 1 1 0 ln])), some (.ints lost), some (.cells [.ref 0 0]), some (.cells [.i y1_0_0]), some (.cells [.i y1_0_1]), none] : DH)⟩
def hp_endsW_3 (c : ConsD) (q : ProbD) (pos : List Int) (ln : Nat) (lost : List Int) (r8s0_3_0 r8s0_4_0 : Int) : DH := [some (.cells (consC c ++ probC q ++ [.ints pos, .msl 1 1 0 ln])), some (.ints lost), some (.cells [.ref 0 0]), some (.cells [.i r8s0_3_0]), some (.cells [.i r8s0_4_0]), none]
def tgt_endsW_4 (c : ConsD) (q : ProbD) (pos : List Int) (ln : Nat) (lost : List Int) (e8 r8s0_3_0 r8s0_4_0 : Int) : St := ⟨(frm 32 [(4, .ref 3 0), (5, .ref 4 0)]), ([some (.cells (consC c ++ probC q ++ [.ints pos, .msl 1 1 0 ln])), some (.ints lost), some (.cells [.ref 0 0]), some (.cells [.i (if (q.values.getD ((e8).toNat) 0) < r8s0_3_0 then (q.values.getD ((e8).toNat) 0) else r8s0_3_0)]), some (.cells [.i (if (q.values.getD ((e8).toNat) 0) > r8s0_4_0 then (q.values.getD ((e8).toNat) 0) else r8s0_4_0)]), none] : DH)⟩
inductive endsW_b8T where
  | s0 (r8s0_3_0 r8s0_4_0 : Int)
def endsW_b8_H (c : ConsD) (q : ProbD) (pos : List Int) (ln : Nat) (lost : List Int) : endsW_b8T → DH
  | .s0 r8s0_3_0 r8s0_4_0 => [some (.cells (consC c ++ probC q ++ [.ints pos, .msl 1 1 0 ln])), some (.ints lost), some (.cells [.ref 0 0]), some (.cells [.i r8s0_3_0]), some (.cells [.i r8s0_4_0]), none]
def endsW_b8_e0 (n : Nat) (c : ConsD) (q : ProbD) (pos : List Int) (ln : Nat) (lost : List Int) (e8 : Int) (r8s0_3_0 r8s0_4_0 : Int) : Option endsW_b8T :=
  if 0 ≤ e8 ∧ e8 < (q.values.length : Int) then
   some (.s0 (if (q.values.getD ((e8).toNat) 0) < r8s0_3_0 then (q.values.getD ((e8).toNat) 0) else r8s0_3_0) (if (q.values.getD ((e8).toNat) 0) > r8s0_4_0 then (q.values.getD ((e8).toNat) 0) else r8s0_4_0))
  else none
def endsW_b8_l0 (n : Nat) (c : ConsD) (q : ProbD) (pos : List Int) (ln : Nat) (lost : List Int) (e8 : Int) : endsW_b8T → Option endsW_b8T
  | .s0 r8s0_3_0 r8s0_4_0 => endsW_b8_e0 n c q pos ln lost e8 r8s0_3_0 r8s0_4_0
def endsW_b8 (n : Nat) (c : ConsD) (q : ProbD) (pos : List Int) (ln : Nat) (lost : List Int) (e8 : Int) (s : endsW_b8T) : Option endsW_b8T := endsW_b8_l0 n c q pos ln lost e8 s
theorem endsW_b8_ok (n : Nat) (c : ConsD) (q : ProbD) (pos : List Int) (ln : Nat) (lost : List Int) (l B : Nat) (N : Yard Tryd.prog GG 6) (e8 : Int) (s : endsW_b8T) (r : endsW_b8T) (h : endsW_b8 n c q pos ln lost e8 s = some r) : TrA Tryd.prog GG (Fence.wide.inRound l) (some B) 6 N (RndQ 6 [] 0 (endsW_b8_H c q pos ln lost r)) (rgA Tryd.f60 8) (rgB Tryd.f60 8) ⟨frm 32 [(2, .ref 2 0), (4, .ref 3 0), (5, .ref 4 0), (8, .it 5), (9, .i e8)], endsW_b8_H c q pos ln lost s⟩ := by
  unfold endsW_b8 at h
  cases s with
  | s0 r8s0_3_0 r8s0_4_0 =>
    have h : endsW_b8_e0 n c q pos ln lost e8 r8s0_3_0 r8s0_4_0 = some r := h
    unfold endsW_b8_e0 at h
    refine ag sch_endsW [0, 1, 2, 3, 4, 5] H0 (frm 32 [(2, .ref 2 0), (4, .ref 3 0), (5, .ref 4 0), (6, .i e8)]) (hp_endsW_3 c q pos ln lost r8s0_3_0 r8s0_4_0) ?_
    intro N
    obtain ⟨b8_g0, h⟩ := guardSome h
    cases h
    exact rr (tg := [([(20, 3)], (tgt_endsW_4 c q pos ln lost e8 r8s0_3_0 r8s0_4_0))]) sch_endsW [0, 1, 2, 3, 4, 5] rfl (H0.g s_endsW_4 |>.g b8_g0 |>.g b8_g0 |>.t |>.t |>.g (Eq.refl (tgt_endsW_4 c q pos ln lost e8 r8s0_3_0 r8s0_4_0)))
def endsW_l0 (n : Nat) (ss : Int) (c : ConsD) (q : ProbD) (pos : List Int) (ln : Nat) (lost : List Int) : Option (Int × Int × (List Int)) :=
  if 0 ≤ ss ∧ ss < 9223372036854775808 then
   (foldO (endsW_b8 n c q pos ln lost) (symsI ss) (.s0 100 (-1))).bind fun y1 =>
    match y1 with
    | .s0 y1_0_0 y1_0_1 =>
     some (y1_0_0, y1_0_1, lost)
  else none
def endsW (n : Nat) (ss : Int) (c : ConsD) (q : ProbD) (pos : List Int) (ln : Nat) (lost : List Int) : Option (Int × Int × (List Int)) := endsW_l0 n ss c q pos ln lost
theorem endsW_ok {n : Nat} {ss : Int} {c : ConsD} {q : ProbD} {pos : List Int} {ln : Nat} {lost : List Int} {r : Int × Int × (List Int)} (h : endsW n ss c q pos ln lost = some r) : ES Tryd.prog GG 60 [.ref 0 0, .i ss] [some (.cells (consC c ++ probC q ++ [.ints pos, .msl 1 1 0 ln])), some (.ints lost)] (.tup 2 (L1 [.i r.1, .i r.2.1])) [some (.cells (consC c ++ probC q ++ [.ints pos, .msl 1 1 0 ln])), some (.ints r.2.2)] false := by
  refine ot Tryd.func60 fun B N => ?_
  unfold endsW at h
  unfold endsW_l0 at h
  obtain ⟨g0, h⟩ := guardSome h
  obtain ⟨y1, hy1, h⟩ := bindSome h
  refine gs sch_endsW [0, 1, 2, 3, 4, 5] (H0.t |>.t |>.c (symbols_it g0 (hp_endsW_0 c q pos ln lost))) (atT (bodyC Tryd.f60) 8 []) (frm 32 [(2, .ref 2 0), (4, .ref 3 0), (5, .ref 4 0), (8, .it 5)]) (hp_endsW_1 c q pos ln lost ss) ?_
  refine r0 5 8 #[9] encI 6 hy1 (endsW_b8_ok n c q pos ln lost) ?_
  cases y1 with
  | s0 y1_0_0 y1_0_1 =>
    dsimp only at h
    cases h
    exact ee (tg := [([(2, 3)], (tgt_endsW_2 c q pos ln lost y1_0_0 y1_0_1))]) sch_endsW [4, 5] [0, 1, 3, 4] (H0.g s_endsW_5 |>.t |>.t |>.g (Eq.refl (tgt_endsW_2 c q pos ln lost y1_0_0 y1_0_1)))
def t_sumW_5 : ST := .rd 0 (.rd 1 (.rd 2 (.rd 3 (.rd 4 (.rd 5 (.rd 6 (.rd 7 (.ef 8 (.rd 9 (.rd 10 (.rd 11 (.rd 12 (.rd 13 (.fin [] [1, 3, 4, 7, 8, 19, 20, 21, 90])))))) (.no)))))))))
theorem s_sumW_5 : TOk (regF Tryd.f42 5) [] t_sumW_5 := by unfold TOk; kernel_rfl
def t_sumW_6 : ST := .rd 0 (.rd 1 (.rd 2 (.rd 3 (.rd 4 (.rd 5 (.ef 6 (.ef 7 (.fin [] [1, 3, 4, 19, 20, 21, 90]) (.no)) (.no)))))))
theorem s_sumW_6 : TOk (regF Tryd.f42 6) [6] t_sumW_6 := by unfold TOk; kernel_rfl
theorem s_sumW_8 : SOk (regF Tryd.f42 8) [] (List.range 16) [] := by unfold SOk; kernel_rfl
def t_sumW_13 : ST := .rd 0 (.rd 1 (.rd 2 (.rd 3 (.rd 4 (.rd 5 (.rd 6 (.rd 7 (.ef 8 (.rd 9 (.rd 10 (.rd 11 (.ef 12 (.ef 13 (.ef 14 (.ef 15 (.fin [0, 1] [1, 3, 4, 10, 11, 12, 64, 65, 66, 90]) (.no)) (.no)) (.no)) (.ef 13 (.ef 12 (.ef 14 (.ef 15 (.fin [1, 0] [1, 3, 4, 10, 11, 12, 64, 65, 66, 90]) (.no)) (.no)) (.no)) (.no)))))) (.ef 12 (.ef 8 (.rd 9 (.rd 10 (.rd 11 (.ef 13 (.ef 14 (.ef 15 (.fin [0, 1] [1, 3, 4, 10, 11, 12, 64, 65, 66, 90]) (.no)) (.no)) (.no))))) (.ef 13 (.ef 8 (.rd 9 (.rd 10 (.rd 11 (.ef 14 (.ef 15 (.fin [0, 1] [1, 3, 4, 10, 11, 12, 64, 65, 66, 90]) (.no)) (.no))))) (.no)) (.no))) (.ef 13 (.ef 8 (.rd 9 (.rd 10 (.rd 11 (.ef 12 (.ef 14 (.ef 15 (.fin [1, 0] [1, 3, 4, 10, 11, 12, 64, 65, 66, 90]) (.no)) (.no)) (.no))))) (.ef 12 (.ef 8 (.rd 9 (.rd 10 (.rd 11 (.ef 14 (.ef 15 (.fin [1, 0] [1, 3, 4, 10, 11, 12, 64, 65, 66, 90]) (.no)) (.no))))) (.no)) (.no))) (.no)))))))))))
theorem s_sumW_13 : TOk (regF Tryd.f42 13) [12, 13, 14] t_sumW_13 := by unfold TOk; kernel_rfl
theorem s_sumW_14 : SOk (regF Tryd.f42 14) [([0, 1, 2, 3, 4, 5, 6], 7)] [] [] := by unfold SOk; kernel_rfl
theorem s_sumW_17 : SOk (regF Tryd.f42 17) [] (List.range 24) [] := by unfold SOk; kernel_rfl
def t_sumW_18 : ST := .rd 0 (.rd 1 (.rd 2 (.rd 3 (.ef 4 (.fin [] [2]) (.no)))))
theorem s_sumW_18 : TOk (regF Tryd.f42 18) [] t_sumW_18 := by unfold TOk; kernel_rfl
def sch_sumW : Sch := fun i => match i with
  | 5 => .tre [] t_sumW_5
  | 6 => .tre [6] t_sumW_6
  | 8 => .ord [] (List.range 16) []
  | 13 => .tre [12, 13, 14] t_sumW_13
  | 14 => .ord [([0, 1, 2, 3, 4, 5, 6], 7)] [] []
  | 17 => .ord [] (List.range 24) []
  | 18 => .tre [] t_sumW_18
  | _ => .no
def hp_sumW_0 (c : ConsD) (q : ProbD) (pos : List Int) (ln : Nat) (o1 : List Int) (o3_0 o4_0 : Int) : DH := [some (.cells (consC c ++ probC q ++ [.ints pos, .msl 1 1 0 ln])), some (.ints o1), some (.cells [.ref 0 0]), some (.cells [.i o3_0]), some (.cells [.i o4_0])]
def tgt_sumW_1 (y1 : Int × Int × (List Int)) (c : ConsD) (x21 : Int) (q : ProbD) (pos : List Int) (ln : Nat) (o3_0 o4_0 : Int) : St := ⟨(frm 129 [(1, .ref 2 0), (3, .ref 3 0), (4, .ref 4 0), (7, .i y1.1), (8, .i y1.2.1), (19, .ints c.cells), (20, .i (c.cells.length : Int)), (21, .i x21)]), ([some (.cells (consC c ++ probC q ++ [.ints pos, .msl 1 1 0 ln])), some (.ints y1.2.2), some (.cells [.ref 0 0]), some (.cells [.i o3_0]), some (.cells [.i o4_0])] : DH)⟩
def tgt_sumW_2 (c : ConsD) (x21 : Int) (q : ProbD) (pos : List Int) (ln : Nat) (y1 : Int × Int × (List Int)) (o3_0 o4_0 : Int) : St := ⟨(frm 129 [(1, .ref 2 0), (3, .ref 3 0), (4, .ref 4 0), (19, .ints c.cells), (20, .i (c.cells.length : Int)), (21, .i x21)]), ([some (.cells (consC c ++ probC q ++ [.ints pos, .msl 1 1 0 ln])), some (.ints y1.2.2), some (.cells [.ref 0 0]), some (.cells [.i (o3_0 + y1.1)]), some (.cells [.i (o4_0 + y1.2.1)])] : DH)⟩
def hp_sumW_3 (c : ConsD) (q : ProbD) (pos : List Int) (ln : Nat) (o1 : List Int) (o3_0 o4_0 x66 : Int) : DH := [some (.cells (consC c ++ probC q ++ [.ints pos, .msl 1 1 0 ln])), some (.ints o1), some (.cells [.ref 0 0]), some (.cells [.i o3_0]), some (.cells [.i o4_0]), some (.cells [.i (c.cells.getD ((x66).toNat) 0)])]
def tgt_sumW_4 (c : ConsD) (x66 : Int) (q : ProbD) (pos : List Int) (ln : Nat) (y1 : Int × Int × (List Int)) (o3_0 o4_0 : Int) : St := ⟨(frm 129 [(1, .ref 2 0), (3, .ref 3 0), (4, .ref 4 0), (10, .ref 5 0), (11, .ref 6 0), (12, .ref 7 0), (64, .ints c.cells), (65, .i (c.cells.length : Int)), (66, .i x66)]), ([some (.cells (consC c ++ probC q ++ [.ints pos, .msl 1 1 0 ln])), some (.ints y1.2.2), some (.cells [.ref 0 0]), some (.cells [.i o3_0]), some (.cells [.i o4_0]), some (.cells [.i (c.cells.getD ((x66).toNat) 0)]), some (.cells [.i y1.1]), some (.cells [.i y1.2.1])] : DH)⟩
def hp_sumW_5 (c : ConsD) (q : ProbD) (pos : List Int) (ln : Nat) (o1 : List Int) (o3_0 o4_0 x66 : Int) : DH := [some (.cells (consC c ++ probC q ++ [.ints pos, .msl 1 1 0 ln])), some (.ints o1), some (.cells [.ref 0 0]), some (.cells [.i o3_0]), some (.cells [.i o4_0]), some (.cells [.i (c.cells.getD ((x66).toNat) 0)]), some (.cells [.i 0])]
def hp_sumW_6 (c : ConsD) (q : ProbD) (pos : List Int) (ln : Nat) (o1 : List Int) (o3_0 o4_0 x66 : Int) : DH := [some (.cells (consC c ++ probC q ++ [.ints pos, .msl 1 1 0 ln])), some (.ints o1), some (.cells [.ref 0 0]), some (.cells [.i o3_0]), some (.cells [.i o4_0]), some (.cells [.i (c.cells.getD ((x66).toNat) 0)]), some (.cells [.i 0]), some (.cells [.i 0])]
def hp_sumW_7 (c : ConsD) (q : ProbD) (pos : List Int) (ln : Nat) (y1 : Int × Int × (List Int)) (o3_0 o4_0 x66 : Int) : DH := [some (.cells (consC c ++ probC q ++ [.ints pos, .msl 1 1 0 ln])), some (.ints y1.2.2), some (.cells [.ref 0 0]), some (.cells [.i o3_0]), some (.cells [.i o4_0]), some (.cells [.i (c.cells.getD ((x66).toNat) 0)]), some (.cells [.i y1.1]), some (.cells [.i y1.2.1])]
def hp_sumW_8 (c : ConsD) (q : ProbD) (pos : List Int) (ln : Nat) (y1 : Int × Int × (List Int)) (o3_0 o4_0 x66 : Int) : DH := [some (.cells (consC c ++ probC q ++ [.ints pos, .msl 1 1 0 ln])), some (.ints y1.2.2), some (.cells [.ref 0 0]), some (.cells [.i o3_0]), some (.cells [.i o4_0]), some (.cells [.i (c.cells.getD ((x66).toNat) 0)]), some (.cells [.i y1.1]), some (.cells [.i y1.2.1]), some (.iter ((symsI (pos.getD ((c.cells.getD ((x66).toNat) 0).toNat) 0)).map encI))]
def hp_sumW_9 (c : ConsD) (q : ProbD) (pos : List Int) (ln : Nat) (r89s0_1 : List Int) (o3_0 o4_0 x66 : Int) (y1 : Int × Int × (List Int)) : DH := [some (.cells (consC c ++ probC q ++ [.ints pos, .msl 1 1 0 ln])), some (.ints r89s0_1), some (.cells [.ref 0 0]), some (.cells [.i o3_0]), some (.cells [.i o4_0]), some (.cells [.i (c.cells.getD ((x66).toNat) 0)]), some (.cells [.i y1.1]), some (.cells [.i y1.2.1]), none]
def tgt_sumW_10 (c : ConsD) (q : ProbD) (pos : List Int) (ln : Nat) (b89_y1 : (List Int)) (o3_0 o4_0 x66 : Int) (y1 : Int × Int × (List Int)) : St := ⟨(frm 129 []), ([some (.cells (consC c ++ probC q ++ [.ints pos, .msl 1 1 0 ln])), some (.ints b89_y1), some (.cells [.ref 0 0]), some (.cells [.i o3_0]), some (.cells [.i o4_0]), some (.cells [.i (c.cells.getD ((x66).toNat) 0)]), some (.cells [.i y1.1]), some (.cells [.i y1.2.1]), none] : DH)⟩
inductive sumW_b89T where
  | s0 (r89s0_1 : List Int)
def sumW_b89_H (c : ConsD) (x66 : Int) (q : ProbD) (pos : List Int) (ln : Nat) (o3_0 o4_0 : Int) (y1 : Int × Int × (List Int)) : sumW_b89T → DH
  | .s0 r89s0_1 => [some (.cells (consC c ++ probC q ++ [.ints pos, .msl 1 1 0 ln])), some (.ints r89s0_1), some (.cells [.ref 0 0]), some (.cells [.i o3_0]), some (.cells [.i o4_0]), some (.cells [.i (c.cells.getD ((x66).toNat) 0)]), some (.cells [.i y1.1]), some (.cells [.i y1.2.1]), none]
def sumW_b89_e0 (n : Nat) (c : ConsD) (x66 : Int) (q : ProbD) (pos : List Int) (ln : Nat) (o3_0 o4_0 : Int) (y1 : Int × Int × (List Int)) (e89 : Int) (r89s0_1 : List Int) : Option sumW_b89T :=
  if (0 ≤ e89 ∧ e89 < (q.values.length : Int)) ∧ R64 (o3_0 - y1.1) ∧ R64 ((o3_0 - y1.1) + (q.values.getD ((e89).toNat) 0)) then
   bif (decide (((o3_0 - y1.1) + (q.values.getD ((e89).toNat) 0)) > c.hi)) then
    if 0 ≤ e89 ∧ e89 ≤ (IntKind.i64.bits : Int) then
     (loseW n (c.cells.getD ((x66).toNat) 0) (IntKind.i64.wrap (1 * 2 ^ (e89).toNat)) c q pos ln r89s0_1).bind fun b89_y1 =>
      some (.s0 b89_y1)
    else none
   else
    if R64 (o4_0 - y1.2.1) ∧ R64 ((o4_0 - y1.2.1) + (q.values.getD ((e89).toNat) 0)) then
     bif (decide (((o4_0 - y1.2.1) + (q.values.getD ((e89).toNat) 0)) < c.lo)) then
      if 0 ≤ e89 ∧ e89 ≤ (IntKind.i64.bits : Int) then
       (loseW n (c.cells.getD ((x66).toNat) 0) (IntKind.i64.wrap (1 * 2 ^ (e89).toNat)) c q pos ln r89s0_1).bind fun b89_y1 =>
        some (.s0 b89_y1)
      else none
     else
      some (.s0 r89s0_1)
    else none
  else none
def sumW_b89_l0 (n : Nat) (c : ConsD) (x66 : Int) (q : ProbD) (pos : List Int) (ln : Nat) (o3_0 o4_0 : Int) (y1 : Int × Int × (List Int)) (e89 : Int) : sumW_b89T → Option sumW_b89T
  | .s0 r89s0_1 => sumW_b89_e0 n c x66 q pos ln o3_0 o4_0 y1 e89 r89s0_1
def sumW_b89 (n : Nat) (c : ConsD) (x66 : Int) (q : ProbD) (pos : List Int) (ln : Nat) (o3_0 o4_0 : Int) (y1 : Int × Int × (List Int)) (e89 : Int) (s : sumW_b89T) : Option sumW_b89T := sumW_b89_l0 n c x66 q pos ln o3_0 o4_0 y1 e89 s
theorem sumW_b89_ok (n : Nat) (c : ConsD) (x66 : Int) (q : ProbD) (pos : List Int) (ln : Nat) (o3_0 o4_0 : Int) (y1 : Int × Int × (List Int)) (l B : Nat) (N : Yard Tryd.prog GG 9) (e89 : Int) (s : sumW_b89T) (r : sumW_b89T) (h : sumW_b89 n c x66 q pos ln o3_0 o4_0 y1 e89 s = some r) : TrA Tryd.prog GG (Fence.wide.inRound l) (some B) 9 N (RndQ 9 [] 0 (sumW_b89_H c x66 q pos ln o3_0 o4_0 y1 r)) (rgA Tryd.f42 89) (rgB Tryd.f42 89) ⟨frm 129 [(1, .ref 2 0), (3, .ref 3 0), (4, .ref 4 0), (10, .ref 5 0), (11, .ref 6 0), (12, .ref 7 0), (64, .ints c.cells), (65, .i (c.cells.length : Int)), (66, .i x66), (89, .it 8), (90, .i e89)], sumW_b89_H c x66 q pos ln o3_0 o4_0 y1 s⟩ := by
  unfold sumW_b89 at h
  cases s with
  | s0 r89s0_1 =>
    have h : sumW_b89_e0 n c x66 q pos ln o3_0 o4_0 y1 e89 r89s0_1 = some r := h
    unfold sumW_b89_e0 at h
    refine ag sch_sumW [0, 1, 2, 3, 4, 5, 6, 7, 8] H0 (frm 129 [(1, .ref 2 0), (3, .ref 3 0), (4, .ref 4 0), (10, .ref 5 0), (11, .ref 6 0), (12, .ref 7 0), (13, .i e89)]) (hp_sumW_9 c q pos ln r89s0_1 o3_0 o4_0 x66 y1) ?_
    intro N
    obtain ⟨⟨b89_g0, b89_g1, b89_g2⟩, h⟩ := guardSome h
    have p := H0.g b89_g0 |>.g s_sumW_17 |>.w 101 b89_g1 |>.w 103 b89_g2
    rcases bifSome h with ⟨b89_c0, h⟩ | ⟨b89_c0, h⟩
    · obtain ⟨b89_g3, h⟩ := guardSome h
      obtain ⟨b89_y1, hb89_y1, h⟩ := bindSome h
      cases h
      exact rr (tg := [([], (tgt_sumW_10 c q pos ln b89_y1 o3_0 o4_0 x66 y1))]) sch_sumW [0, 1, 2, 3, 4, 5, 6, 7, 8] rfl (p.b 109 b89_c0 |>.g s_sumW_18 |>.g b89_g3 |>.c (em (loseW_ok hb89_y1) [0, 1] (hp_sumW_9 c q pos ln r89s0_1 o3_0 o4_0 x66 y1)) |>.g (Eq.refl (tgt_sumW_10 c q pos ln b89_y1 o3_0 o4_0 x66 y1)))
    · obtain ⟨⟨b89_g3, b89_g4⟩, h⟩ := guardSome h
      have p := p.b 109 b89_c0 |>.w 113 b89_g3 |>.w 115 b89_g4
      rcases bifSome h with ⟨b89_c1, h⟩ | ⟨b89_c1, h⟩
      · obtain ⟨b89_g5, h⟩ := guardSome h
        obtain ⟨b89_y1, hb89_y1, h⟩ := bindSome h
        cases h
        exact rr (tg := [([], (tgt_sumW_10 c q pos ln b89_y1 o3_0 o4_0 x66 y1))]) sch_sumW [0, 1, 2, 3, 4, 5, 6, 7, 8] rfl (p.b 121 b89_c1 |>.g s_sumW_18 |>.g b89_g5 |>.c (em (loseW_ok hb89_y1) [0, 1] (hp_sumW_9 c q pos ln r89s0_1 o3_0 o4_0 x66 y1)) |>.g (Eq.refl (tgt_sumW_10 c q pos ln b89_y1 o3_0 o4_0 x66 y1)))
      · cases h
        exact rr sch_sumW [0, 1, 2, 3, 4, 5, 6, 7, 8] rfl (p.b 121 b89_c1)
inductive sumWPt where
  | l1 (x21 : Int) (o1 : List Int) (o3_0 o4_0 : Int)
  | l2 (x66 : Int) (o1 : List Int) (o3_0 o4_0 : Int)
def sumW_l1 (n : Nat) (self : sumWPt → Option (Bool × (List Int))) (c : ConsD) (q : ProbD) (pos : List Int) (ln : Nat) (lost : List Int) (x21 : Int) (o1 : List Int) (o3_0 o4_0 : Int) : Option (Bool × (List Int)) :=
  bif (decide (x21 < (c.cells.length : Int))) then
   if (0 ≤ x21 ∧ x21 < (c.cells.length : Int)) ∧ (0 ≤ (c.cells.getD ((x21).toNat) 0) ∧ (c.cells.getD ((x21).toNat) 0) < (pos.length : Int)) then
    (endsW n (pos.getD ((c.cells.getD ((x21).toNat) 0).toNat) 0) c q pos ln o1).bind fun y1 =>
     if R64 (o3_0 + y1.1) ∧ R64 (o4_0 + y1.2.1) ∧ R64 (x21 + 1) then
      self (.l1 (x21 + 1) y1.2.2 (o3_0 + y1.1) (o4_0 + y1.2.1))
     else none
   else none
  else
   bif (decide (o3_0 > c.hi)) then
    some (false, o1)
   else
    bif (decide (o4_0 < c.lo)) then
     some (false, o1)
    else
     self (.l2 0 o1 o3_0 o4_0)
def sumW_l2 (n : Nat) (self : sumWPt → Option (Bool × (List Int))) (c : ConsD) (q : ProbD) (pos : List Int) (ln : Nat) (lost : List Int) (x66 : Int) (o1 : List Int) (o3_0 o4_0 : Int) : Option (Bool × (List Int)) :=
  bif (decide (x66 < (c.cells.length : Int))) then
   if (0 ≤ x66 ∧ x66 < (c.cells.length : Int)) ∧ (0 ≤ (c.cells.getD ((x66).toNat) 0) ∧ (c.cells.getD ((x66).toNat) 0) < (pos.length : Int)) then
    (endsW n (pos.getD ((c.cells.getD ((x66).toNat) 0).toNat) 0) c q pos ln o1).bind fun y1 =>
     if 0 ≤ (pos.getD ((c.cells.getD ((x66).toNat) 0).toNat) 0) ∧ (pos.getD ((c.cells.getD ((x66).toNat) 0).toNat) 0) < 9223372036854775808 then
      (foldO (sumW_b89 n c x66 q pos ln o3_0 o4_0 y1) (symsI (pos.getD ((c.cells.getD ((x66).toNat) 0).toNat) 0)) (.s0 y1.2.2)).bind fun y2 =>
       match y2 with
       | .s0 y2_0_0 =>
        if R64 (x66 + 1) then
         self (.l2 (x66 + 1) y2_0_0 o3_0 o4_0)
        else none
     else none
   else none
  else
   some (true, o1)
def sumW_l0 (n : Nat) (self : sumWPt → Option (Bool × (List Int))) (c : ConsD) (q : ProbD) (pos : List Int) (ln : Nat) (lost : List Int) : Option (Bool × (List Int)) :=
  self (.l1 0 lost 0 0)
def sumW_m (c : ConsD) (q : ProbD) (pos : List Int) (ln : Nat) (lost : List Int) : Nat → sumWPt → Option (Bool × (List Int))
  | 0, _ => none
  | n + 1, .l1 x21 o1 o3_0 o4_0 => sumW_l1 n (sumW_m c q pos ln lost n) c q pos ln lost x21 o1 o3_0 o4_0
  | n + 1, .l2 x66 o1 o3_0 o4_0 => sumW_l2 n (sumW_m c q pos ln lost n) c q pos ln lost x66 o1 o3_0 o4_0
def sumW (n : Nat) (c : ConsD) (q : ProbD) (pos : List Int) (ln : Nat) (lost : List Int) : Option (Bool × (List Int)) := sumW_l0 n (sumW_m c q pos ln lost n) c q pos ln lost
/-- What the points stand for. -/
def sumW_at (n : Nat) (B : Nat) (N : Yard Tryd.prog GG 2) (c : ConsD) (q : ProbD) (pos : List Int) (ln : Nat) (lost : List Int) (r : Bool × (List Int)) : sumWPt → Prop
  | .l1 x21 o1 o3_0 o4_0 => ∀ m0 : Nat, n ≤ m0 → TrK Tryd.prog GG Fence.wide (some B) 2 N (Fin Tryd.prog Tryd.f42 2 (.bool r.1) [some (.cells (consC c ++ probC q ++ [.ints pos, .msl 1 1 0 ln])), some (.ints r.2)]) (toN m0 (atNC (bodyC Tryd.f42) 0 [])) ⟨frm 129 [(1, .ref 2 0), (3, .ref 3 0), (4, .ref 4 0), (19, .ints c.cells), (20, .i (c.cells.length : Int)), (21, .i x21)], [some (.cells (consC c ++ probC q ++ [.ints pos, .msl 1 1 0 ln])), some (.ints o1), some (.cells [.ref 0 0]), some (.cells [.i o3_0]), some (.cells [.i o4_0])]⟩
  | .l2 x66 o1 o3_0 o4_0 => ∀ m0 : Nat, n ≤ m0 → TrK Tryd.prog GG Fence.wide (some B) 2 N (Fin Tryd.prog Tryd.f42 2 (.bool r.1) [some (.cells (consC c ++ probC q ++ [.ints pos, .msl 1 1 0 ln])), some (.ints r.2)]) (toN m0 (atNC (bodyC Tryd.f42) 2 [])) ⟨frm 129 [(1, .ref 2 0), (3, .ref 3 0), (4, .ref 4 0), (64, .ints c.cells), (65, .i (c.cells.length : Int)), (66, .i x66)], [some (.cells (consC c ++ probC q ++ [.ints pos, .msl 1 1 0 ln])), some (.ints o1), some (.cells [.ref 0 0]), some (.cells [.i o3_0]), some (.cells [.i o4_0])]⟩
theorem sumW_all (B : Nat) (N : Yard Tryd.prog GG 2) (c : ConsD) (q : ProbD) (pos : List Int) (ln : Nat) (lost : List Int) : ∀ (n : Nat) (pt : sumWPt) (r : Bool × (List Int)), sumW_m c q pos ln lost n pt = some r → sumW_at n B N c q pos ln lost r pt := by
  intro n; induction n with
  | zero => intro _ _ h; cases h
  | succ n hself =>
   intro pt r h
   cases pt
   case l1 x21 o1 o3_0 o4_0 =>
    have h : sumW_l1 n (sumW_m c q pos ln lost n) c q pos ln lost x21 o1 o3_0 o4_0 = some r := h
    intro m0 hm0
    refine rd hm0 fun m0 hm0 => ?_
    unfold sumW_l1 at h
    rcases bifSome h with ⟨c0, h⟩ | ⟨c0, h⟩
    · obtain ⟨⟨g0, g1⟩, h⟩ := guardSome h
      obtain ⟨y1, hy1, h⟩ := bindSome h
      obtain ⟨⟨g2, g3, g4⟩, h⟩ := guardSome h
      exact gg (tg := [([], (tgt_sumW_1 y1 c x21 q pos ln o3_0 o4_0)), ([(6, 3)], (tgt_sumW_2 c x21 q pos ln y1 o3_0 o4_0))]) sch_sumW [0, 1, 2, 3, 4] (H0.b 22 c0 |>.g g0 |>.g s_sumW_5 |>.g g1 |>.c (em (endsW_ok hy1) [0, 1] (hp_sumW_0 c q pos ln o1 o3_0 o4_0)) |>.g (Eq.refl (tgt_sumW_1 y1 c x21 q pos ln o3_0 o4_0)) |>.g s_sumW_6 |>.w 39 g2 |>.w 42 g3 |>.t |>.t |>.g (Eq.refl (tgt_sumW_2 c x21 q pos ln y1 o3_0 o4_0)) |>.w 43 g4) (hself _ _ h m0 hm0)
    · have p := H0.b 22 c0 |>.g s_sumW_8
      rcases bifSome h with ⟨c1, h⟩ | ⟨c1, h⟩
      · cases h
        exact ee sch_sumW [2] [0, 1] (p.b 50 c1)
      · have p := p.b 50 c1
        rcases bifSome h with ⟨c2, h⟩ | ⟨c2, h⟩
        · cases h
          exact ee sch_sumW [2] [0, 1] (p.b 58 c2)
        · exact gg sch_sumW [0, 1, 2, 3, 4] (p.b 58 c2) (en n (hself _ _ h n (Nat.le_refl _)))
   case l2 x66 o1 o3_0 o4_0 =>
    have h : sumW_l2 n (sumW_m c q pos ln lost n) c q pos ln lost x66 o1 o3_0 o4_0 = some r := h
    intro m0 hm0
    refine rd hm0 fun m0 hm0 => ?_
    unfold sumW_l2 at h
    rcases bifSome h with ⟨c0, h⟩ | ⟨c0, h⟩
    · obtain ⟨⟨g0, g1⟩, h⟩ := guardSome h
      obtain ⟨y1, hy1, h⟩ := bindSome h
      obtain ⟨g2, h⟩ := guardSome h
      obtain ⟨y2, hy2, h⟩ := bindSome h
      refine gs (tg := [([], (tgt_sumW_4 c x66 q pos ln y1 o3_0 o4_0))]) sch_sumW [0, 1, 2, 3, 4, 5, 6, 7, 8] (H0.b 67 c0 |>.g g0 |>.t |>.g s_sumW_13 |>.g g1 |>.c (em (endsW_ok hy1) [0, 1] (hp_sumW_3 c q pos ln o1 o3_0 o4_0 x66)) |>.t |>.t |>.g (Eq.refl (tgt_sumW_4 c x66 q pos ln y1 o3_0 o4_0)) |>.t |>.t |>.g (Eq.refl (tgt_sumW_4 c x66 q pos ln y1 o3_0 o4_0)) |>.c (em (endsW_ok hy1) [0, 1] (hp_sumW_5 c q pos ln o1 o3_0 o4_0 x66)) |>.t |>.t |>.g (Eq.refl (tgt_sumW_4 c x66 q pos ln y1 o3_0 o4_0)) |>.c (em (endsW_ok hy1) [0, 1] (hp_sumW_6 c q pos ln o1 o3_0 o4_0 x66)) |>.t |>.t |>.g (Eq.refl (tgt_sumW_4 c x66 q pos ln y1 o3_0 o4_0)) |>.c (em (endsW_ok hy1) [0, 1] (hp_sumW_5 c q pos ln o1 o3_0 o4_0 x66)) |>.t |>.t |>.g (Eq.refl (tgt_sumW_4 c x66 q pos ln y1 o3_0 o4_0)) |>.c (em (endsW_ok hy1) [0, 1] (hp_sumW_6 c q pos ln o1 o3_0 o4_0 x66)) |>.t |>.t |>.g (Eq.refl (tgt_sumW_4 c x66 q pos ln y1 o3_0 o4_0)) |>.g s_sumW_14 |>.g g1 |>.c (symbols_it g2 (hp_sumW_7 c q pos ln y1 o3_0 o4_0 x66))) (atT (bodyC Tryd.f42) 89 [m0]) (frm 129 [(1, .ref 2 0), (3, .ref 3 0), (4, .ref 4 0), (10, .ref 5 0), (11, .ref 6 0), (12, .ref 7 0), (64, .ints c.cells), (65, .i (c.cells.length : Int)), (66, .i x66), (89, .it 8)]) (hp_sumW_8 c q pos ln y1 o3_0 o4_0 x66) ?_
      refine r0 8 89 #[90] encI 9 hy2 (sumW_b89_ok n c x66 q pos ln o3_0 o4_0 y1) ?_
      cases y2 with
      | s0 y2_0_0 =>
        dsimp only at h
        obtain ⟨g3, h⟩ := guardSome h
        exact gg sch_sumW [0, 1, 2, 3, 4] (H0.w 128 g3) (hself _ _ h m0 hm0)
    · cases h
      exact ee sch_sumW [2] [0, 1] (H0.b 67 c0)
theorem sumW_ok {n : Nat} {c : ConsD} {q : ProbD} {pos : List Int} {ln : Nat} {lost : List Int} {r : Bool × (List Int)} (h : sumW n c q pos ln lost = some r) : ES Tryd.prog GG 42 [.ref 0 0] [some (.cells (consC c ++ probC q ++ [.ints pos, .msl 1 1 0 ln])), some (.ints lost)] (.bool r.1) [some (.cells (consC c ++ probC q ++ [.ints pos, .msl 1 1 0 ln])), some (.ints r.2)] false := by
  refine ot Tryd.func42 fun B N => ?_
  have hself := sumW_all B N c q pos ln lost n
  unfold sumW at h
  unfold sumW_l0 at h
  exact gg sch_sumW [0, 1, 2, 3, 4] (H0.t |>.t) (en n (hself _ _ h n (Nat.le_refl _)))
end Go.Proofs.YtekkngkphejfcaaDoor
