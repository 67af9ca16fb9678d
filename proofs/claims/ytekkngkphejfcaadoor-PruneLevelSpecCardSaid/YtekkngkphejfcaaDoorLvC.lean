/- Part 3 of 5 of what the proofs of these laws stand on. -/
import Derived.Test.YtekkngkphejfcaaDoorLvB
set_option linter.all false
namespace Go.Proofs.YtekkngkphejfcaaDoor
open Go.RowKit
/-- A function value over a box of its own is an iterator, if the code says so. -/
theorem ES.iterOf {P : Program} {Γ : Glo} {f gf : Nat} {ds : List DV} {c : Nat → DV} {d : DV} {encs : List (Array Value)} {Rd : Nat → Prop} (h0 : ES P Γ f ds [] (.fn gf 1 c) [some (.cells [d])] true) (hc : c 0 = .ref 0 0) (hds : ds.all nrefB = true)
    (eg : ∀ args W, (callFunc gf args).run P W = .ok (.enter gf args) W)
    (law : ∀ (w : World) (b o : Nat) (u : Value), Γ.gi w → Γ.ng ≤ b → (∃ cs t, w.heap[b]? = some (.cells cs t (0, 0))) → w.cell? ⟨b, o, none⟩ = some u → RepV (fun _ => False) w d [] u → Iter P gf #[.pointer (some ⟨b, o, none⟩)] encs (fun k => k = b) Rd w)
    (hd : plainC d = true) (hRd : ∀ b, Rd b → b < Γ.ng) (h : DH) : ES P Γ f ds h (.it h.length) (h ++ [some (.iter encs)]) true := by
  refine ⟨h0.1, fun N ρ w args HR hargs => ?_⟩
  refine (h0.2 (MS N h ρ) [] w args (hrel_nil (fun b hb => HR.lt2 hb) HR.gi) ⟨hargs.1, fun i hi => ?_⟩).mono ?_
  · have hx := nrefB_ok (List.all_eq_true.1 hds (ds.getD i .any) (by simp [hi]))
    exact RepV.out _ (out_iff (fun b hb => MS_nil.1 hb) []) (hx _ _ _ _ (hargs.2 i hi))
  · rintro e w' ⟨v, rfl, ⟨⟨ρ', g1, g2, g3, g4⟩, g5⟩⟩
    have hE := g5 rfl
    obtain ⟨p, hp, hob⟩ := g1.obj 0 _ rfl
    have hob : RowAt w' p 1 _ := hob
    have hf : ∀ b, p.foot b → w.heap.size ≤ b := fun b hb => (g3.grow b ⟨0, _, p, rfl, hp, hb⟩).resolve_left fun ⟨k, o', p', q1, _⟩ => by simp at q1
    obtain ⟨lb, hv, hl, hlb⟩ := g2
    obtain ⟨u, hu, hr⟩ := hlb 0 (by omega)
    rw [hc] at hr
    obtain ⟨p', hp', hu2⟩ := hr
    have ep : p' = p := Option.some.inj (hp'.symm.trans hp)
    subst ep
    have hlb' : lb = #[.pointer (some ⟨p'.blk, p'.off, none⟩)] := by
      apply Array.ext
      · simp [hl]
      · intro i h1 h2
        have : i = 0 := by omega
        subst this
        have := Array.getElem?_eq_some_iff.1 hu
        obtain ⟨_, e⟩ := this
        rw [e, hu2]; rfl
    subst hlb'
    obtain ⟨u2, c1, c2⟩ := RowAt.cell hob (j := 0) (by omega)
    have hfoot : p'.foot = fun b => b = p'.blk := hob.1
    have hng : Γ.ng ≤ w.heap.size := Γ.lo _ HR.gi
    have hcell := g1.cel 0 _ p' p'.blk rfl hp (by rw [hfoot])
    refine ⟨v, rfl, ⟨⟨ρ ++ [{ p' with val := v }], HR.snoc hE (fun b hb => ⟨hf b hb, (g1.cel 0 _ p' b rfl hp hb).2.2⟩) ?_, ⟨{ p' with val := v }, by rw [← HR.len]; simp, rfl⟩, Step.snoc HR hE hf, fun _ _ h => get_snoc_left h⟩, g5⟩⟩
    obtain ⟨_, cs, t, hcs, _⟩ := hob
    refine ⟨gf, _, Rd, ⟨hv, eg⟩, ?_, fun b hb => ?_, fun b hb => ?_⟩
    · show Iter P gf _ encs p'.foot Rd w'
      rw [hfoot]
      refine law w' _ _ u2 g1.gi hcell.1 ⟨cs, t, hcs⟩ (by simpa using c1) ?_
      exact RepV.out _ (out_iff (fun b hb => hb.elim) []) (plainC_nil hd c2)
    · have hb' := hRd b hb
      refine ⟨fun hm => ?_, Nat.lt_of_lt_of_le (Nat.lt_of_lt_of_le hb' hng) hE.size⟩
      rcases hm with hm | hm
      · have := (HR.nlt b hm).2; omega
      · rcases MO.snoc HR hm with hm | hm
        · have := HR.low hm; omega
        · have := hf b hm; omega
    · obtain ⟨_, _, c, t, z, h4⟩ := g1.cel 0 _ p' b rfl hp hb
      exact (Array.getElem?_eq_some_iff.1 h4).1
end Go.Proofs.YtekkngkphejfcaaDoor
namespace Go.Proofs.YtekkngkphejfcaaDoor
open Go.RowKit
structure HX (F : Fence) (P : Program) : Prop where
  f : FOk F P
  m : P.follows .mixedOrders = true
/-- Hints, in the order of the steps: calls, coercions, rows read otherwise, what must hold. -/
structure HS (c : List (DV × DH × Bool)) (o : List (Nat × DV)) (z : List (Nat × Fz)) (v : List Prop) : Prop where
  all : allP v
section
variable {P : Program} {Γ : Glo} {cs : List (DV × DH × Bool)} {os : List (Nat × DV)} {zs : List (Nat × Fz)} {vs : List Prop}
theorem H0 : HS [] [] [] [] := ⟨trivial⟩
theorem HS.add (q : HS cs os zs vs) {c' : List (DV × DH × Bool)} {o' : List (Nat × DV)} {z' : List (Nat × Fz)} {p : Prop} (h : p) : HS c' o' z' (vs ++ [p]) := ⟨allP_append.2 ⟨q.all, h, trivial⟩⟩
theorem HS.o (q : HS cs os zs vs) (t : Nat) {d d' : DV} (x : DLe d d') : HS cs (os ++ [(t, d')]) zs (vs ++ [DLe d d']) := q.add x
theorem HS.b (q : HS cs os zs vs) (t : Nat) {a b : Bool} (x : a = b) : HS cs (os ++ [(t, .bool b)]) zs (vs ++ [DLe (.bool a) (.bool b)]) := q.add (DLe.bool x)
theorem HS.w (q : HS cs os zs vs) (t : Nat) {x : Int} (h : R64 x) : HS cs (os ++ [(t, .int .i64 x)]) zs (vs ++ [DLe (.int .i64 (IntKind.i64.wrap x)) (.int .i64 x)]) := q.add (wr64 h)
theorem HS.g (q : HS cs os zs vs) {p : Prop} (x : p) : HS cs os zs (vs ++ [p]) := q.add x
theorem HS.t (q : HS cs os zs vs) : HS cs os zs (vs ++ [True]) := q.add trivial
theorem HS.c (q : HS cs os zs vs) {f : Nat} {ds : List DV} {h : DH} {d : DV} {h' : DH} {e : Bool} (x : ES P Γ f ds h d h' e) : HS (cs ++ [(d, h', e)]) os zs (vs ++ [ES P Γ f ds h d h' e]) := q.add x
theorem HS.a (q : HS cs os zs vs) (t k m : Nat) {n n' : Nat} {f f' : Nat → Nat → DV} (x : n = n' ∧ ∀ i j, i < n → j < m → DLe (f i j) (f' i j)) : HS cs os (zs ++ [(t, .arr k n' f')]) (vs ++ [n = n' ∧ ∀ i j, i < n → j < m → DLe (f i j) (f' i j)]) := q.add x
theorem HS.z (q : HS cs os zs vs) (t k : Nat) : HS cs os (zs ++ [(t, .frz k)]) vs := ⟨q.all⟩
end
theorem ES.emC {P : Program} {Γ : Glo} {f : Nat} {ds : List DV} {h : DH} {d : DV} {h' : DH} {ext : Bool} (hES : ES P Γ f ds h d h' ext) (σ : List Nat) (H : DH) (hb : embB σ H.length h.length h'.length = true) (hh : (σ.map fun k => H.getD k none) = h.map (upO σ H.length)) : ES P Γ f (ds.map (up σ H.length)) H (up σ H.length d) (embH H σ h') ext :=
  hES.embedB σ H hb hh rfl
theorem oneR {α : Type} [Inhabited α] (c : α → List DV) (L : List α) (n m : Nat) (h : ∀ x, (c x).all oneC = true ∧ m = (c x).length) : ∀ i j, i < n → j < m → oneC (rowE c L i j) = true := fun i j _ hj => oneC_all (h _).1 (h _).2 j hj
/-- Rows become lists, one after the other. -/
def frzL : List Nat → St → Option (St × List Prop)
  | [], S => some (S, [])
  | k :: ks, S => match frzX k S with
    | some (S', vs) => match frzL ks S' with
      | some (S'', vs') => some (S'', vs ++ vs')
      | none => none
    | none => none
theorem SLe.frzL {L : Nat} : ∀ (ks : List Nat) {S S' : St} {vs : List Prop}, Proofs.YtekkngkphejfcaaDoor.frzL ks S = some (S', vs) → allP vs → SLe L S S'
  | [], S, S', vs, h, _ => by cases h; exact SLe.refl L S
  | k :: ks, S, S', vs, h, hv => by
    simp only [Proofs.YtekkngkphejfcaaDoor.frzL] at h
    split at h
    · rename_i S1 vs1 h1
      split at h
      · rename_i S2 vs2 h2
        cases h
        obtain ⟨hv1, hv2⟩ := allP_append.1 hv
        exact (SLe.frzE k S1 vs1 h1 hv1).trans (SLe.frzL ks h2 hv2)
      · cases h
    · cases h
abbrev ROut := List Prop × List Prop × List (DV × DH × Bool) × List (Nat × DV) × Bool
def rOut (σ : List Nat) (L : Nat) (w : List Prop) (r : KO × St × List Prop × Orc) : ROut := (r.2.2.1, w, r.2.2.2.calls, r.2.2.2.co, sigB σ L r.2.1.h.length)
def outF (live σ : List Nat) (L : Nat) (ks : List Nat) (r : KO × St × List Prop × Orc) : Option (KO × List DV × DH × ROut) := match frzL ks (comp live σ r.2.1) with
  | some (S, w) => some (r.1, S.fr, S.h, rOut σ L w r)
  | none => none
/-- How a run ended. -/
def koE : KO → Option Exit
  | .ret => some .ret
  | .at [] => some .normal
  | .at (.code (.exit i) :: k) => if (popTo i k).isNone then some (.exit i) else none
  | _ => none
def outE (P : Program) (live σ : List Nat) (L : Nat) (ks : List Nat) (fn : Func) (d : DV) (l2 : Nat) (r : KO × St × List Prop × Orc) : Option (Bool × List DV × DH × ROut) := match frzL ks (comp live σ r.2.1) with
  | some (S, w) => match resL P S fn.results.toList with
    | some rs => some ((match r.1 with | .ret => true | .at [] => true | _ => false) && (decide (S.h.length ≤ l2) || (S.h.all noIterD && nrefB d && decide (L ≤ S.h.length))), rs, (if S.h.length ≤ l2 then S.h else (compactX (List.range L) S).h), rOut σ L w r)
    | none => none
  | none => none
def outR (σ : List Nat) (L : Nat) (r : KO × St × List Prop × Orc) : Option Exit × DH × ROut := (koE r.1, (comp [] σ r.2.1).h, rOut σ L [] r)
section
variable {P : Program} {Γ : Glo} {F : Fence} {B : Option Nat} {L : Nat} {Y N : Yard P Γ L} {Q : QY P Γ L} {k k' : List KI} {S : St} {fr : List DV} {h' h2 : DH} {c : List (DV × DH × Bool)} {o : List (Nat × DV)} {z : List (Nat × Fz)} {v w : List Prop}
theorem outF_spec {live σ ks : List Nat} {r : KO × St × List Prop × Orc} {r1 : KO} (h : outF live σ L ks r = some (r1, fr, h', v, w, [], [], true)) (hw : allP w) : r.1 = r1 ∧ r.2.2.1 = v ∧ SLe L r.2.1 ⟨fr, h'⟩ := by
  unfold outF at h
  split at h
  · rename_i S1 w1 hf
    simp only [rOut, Option.some.injEq, Prod.mk.injEq] at h
    obtain ⟨rfl, rfl, rfl, rfl, rfl, _, _, hs⟩ := h
    exact ⟨rfl, rfl, (SLe.comp live σ r.2.1 hs).trans (SLe.frzL ks hf hw)⟩
  · cases h
/-- On, to a place that is known. -/
theorem TrK.gS (hX : HX F P) (sch : Sch) (n : Nat) (live σ : List Nat) (tg : List (List (Nat × Nat) × St)) (hl : HS c o z v) (ks : List Nat) (hz : HS [] [] [] w) (k' : List KI) (fr : List DV) (h' : DH)
    (h : (krun P Γ sch n k S ⟨c, o, z, tg⟩).bind (outF live σ L ks) = some (.at k', fr, h', v, w, [], [], true)) (hc : isCode k' = true) (hk : TrG P Γ F B L Y Q k' ⟨fr, h'⟩) : TrG P Γ F B L Y Q k S := by
  cases hr : krun P Γ sch n k S ⟨c, o, z, tg⟩ with
  | none => rw [hr] at h; cases h
  | some r =>
    obtain ⟨r1, S1, v1, o1⟩ := r
    rw [hr] at h
    obtain ⟨e1, e2, hs⟩ := outF_spec (r := (r1, S1, v1, o1)) h hz.all
    have e1 : r1 = .at k' := e1
    have e2 : v1 = v := e2
    subst e1 e2
    exact krun_sound hX.f hX.m n k S _ _ _ _ _ hr hl.all (TrK.le hs hc hk)
/-- A function's end; what it hands out is read otherwise. -/
theorem TrK.el (hX : HX F P) {fn : Func} {d : DV} (sch : Sch) (n : Nat) (live σ : List Nat) (tg : List (List (Nat × Nat) × St)) (hl : HS c o z v) (ks : List Nat) (hz : HS [] [] [] w) (rs : List DV) (le : DLe (tupD rs) d)
    (h : (krun P Γ sch n k S ⟨c, o, z, tg⟩).bind (outE P live σ L ks fn d h2.length) = some (true, rs, h2, v, w, [], [], true)) : TrK P Γ F B L N (Fin P fn L d h2) k S := by
  cases hr : krun P Γ sch n k S ⟨c, o, z, tg⟩ with
  | none => rw [hr] at h; cases h
  | some r =>
    obtain ⟨r1, S1, v1, o1⟩ := r
    rw [hr] at h
    have h : outE P live σ L ks fn d h2.length (r1, S1, v1, o1) = some (true, rs, h2, v, w, [], [], true) := h
    unfold outE at h
    split at h
    · rename_i S2 w1 hf
      split at h
      · rename_i rs' hrs
        simp only [rOut, Option.some.injEq, Prod.mk.injEq, Bool.and_eq_true] at h
        obtain ⟨⟨hret, hq⟩, rfl, hh, rfl, rfl, _, _, hs⟩ := h
        have hS : SLe L S1 S2 := (SLe.comp live σ S1 hs).trans (SLe.frzL ks hf hz.all)
        have fin : ∀ e, (e = .normal ∨ e = .ret) → Fin P fn L d h2 e S1 := fun e he => by
          refine Fin.le hS ⟨he, S2, SLe.refl _ _, rs', hrs, ?_⟩
          by_cases hlen : S2.h.length ≤ h2.length
          · rw [if_pos hlen] at hh; exact .inl ⟨le, hh⟩
          · rw [if_neg hlen] at hh
            simp only [hlen, decide_false, Bool.false_or, Bool.and_eq_true, decide_eq_true_eq] at hq
            exact .inr ⟨noIterB hq.1.1, le, nrefB_ok hq.1.2, hq.2, hh⟩
        refine krun_sound hX.f hX.m n k S _ _ _ _ _ hr hl.all ?_
        rcases r1 with (_ | ⟨_, _⟩) | _
        · exact ⟨rfl, fin _ (.inl rfl)⟩
        · cases hret
        · exact ⟨rfl, fin _ (.inr rfl)⟩
      · cases h
    · cases h
/-- A function's end. -/
theorem TrK.e (hX : HX F P) {fn : Func} {d : DV} (sch : Sch) (n : Nat) (live σ : List Nat) (tg : List (List (Nat × Nat) × St)) (hl : HS c o z v) (ks : List Nat) (hz : HS [] [] [] w)
    (h : (krun P Γ sch n k S ⟨c, o, z, tg⟩).bind (fun r => (outE P live σ L ks fn d h2.length r).map fun q => (q.1, tupD q.2.1, q.2.2)) = some (true, d, h2, v, w, [], [], true)) : TrK P Γ F B L N (Fin P fn L d h2) k S := by
  cases hr : krun P Γ sch n k S ⟨c, o, z, tg⟩ with
  | none => rw [hr] at h; cases h
  | some r =>
    rw [hr] at h
    have h : (outE P live σ L ks fn d h2.length r).map (fun q => (q.1, tupD q.2.1, q.2.2)) = some (true, d, h2, v, w, [], [], true) := h
    cases hq : outE P live σ L ks fn d h2.length r with
    | none => rw [hq] at h; cases h
    | some q =>
      obtain ⟨q1, rs, q3⟩ := q
      rw [hq] at h
      simp only [Option.map_some, Option.some.injEq, Prod.mk.injEq] at h
      obtain ⟨rfl, hd, rfl⟩ := h
      exact TrK.el hX sch n live σ tg hl ks hz rs (DLe.of_eq hd) (by rw [hr]; exact hq)
/-- A round's end. -/
theorem TrK.r (hX : HX F P) {ex : List Exit} {i : Nat} {e : Exit} (sch : Sch) (n : Nat) (σ : List Nat) (tg : List (List (Nat × Nat) × St)) (hl : HS c o z v) (he : (Exit.normal :: ex)[i]? = some e)
    (h : (krun P Γ sch n k S ⟨c, o, z, tg⟩).map (outR σ L) = some (some e, h2, v, [], [], [], true)) : TrK P Γ F B L N (RndQ L ex i h2) k S := by
  cases hr : krun P Γ sch n k S ⟨c, o, z, tg⟩ with
  | none => rw [hr] at h; cases h
  | some r =>
    obtain ⟨r1, S1, v1, o1⟩ := r
    rw [hr] at h
    simp only [Option.map_some, outR, rOut, Option.some.injEq, Prod.mk.injEq] at h
    obtain ⟨hk, hh, rfl, _, _, _, hs⟩ := h
    have fin : stay N (RndQ L ex i h2) e S1 N := ⟨rfl, he, _, SLe.comp [] σ S1 hs, hh⟩
    refine krun_sound hX.f hX.m n k S _ _ _ _ _ hr hl.all ?_
    unfold koE at hk
    split at hk
    · cases hk; exact fin
    · cases hk; exact fin
    · rename_i i' k'
      split at hk
      · rename_i hp
        cases hk
        exact Tr.exit (exit_pass fin k' (Option.isNone_iff_eq_none.1 hp))
      · cases hk
    · cases hk
theorem TrA.g (hX : HX F P) {Q : Exit → St → Prop} {assign body : Code} (sch : Sch) (n : Nat) (live σ : List Nat) (hl : HS c o z v) (fr : List DV) (h' : DH)
    (h : (krun P Γ sch n [.code assign] S ⟨c, o, z, []⟩).map (outC live σ L) = some (.at [], fr, h', v, [], [], true)) (hk : ∀ N2 : Yard P Γ L, TrK P Γ F B L N2 Q [.code body] ⟨fr, h'⟩) : TrA P Γ F B L N Q assign body S :=
  TrA.go hX.f hX.m sch n _ live σ fr h' v h hl.all hk
end
section
variable {P : Program} {Γ : Glo} {L : Nat} {k : List KI} {S : St} {c : List (DV × DH × Bool)} {o : List (Nat × DV)} {z : List (Nat × Fz)} {v : List Prop}
theorem TrI.e {C : ItC P Γ} {Y : Yard P Γ L} (hX : HX Fence.wide P) (sch : Sch) (n : Nat) (hl : HS c o z v)
    (h : (krun P Γ sch n k S ⟨c, o, z, []⟩).map (fun r => ((match r.1 with | .ret => true | .at [] => true | _ => false), r.2.2.1)) = some (true, v)) (hY : Y = C.Y L C.encs.length ∨ Y = C.X L) : TrG P Γ Fence.wide none L Y (C.Q L) k S := by
  cases hr : krun P Γ sch n k S ⟨c, o, z, []⟩ with
  | none => rw [hr] at h; cases h
  | some r =>
    obtain ⟨r1, S1, vs1, o1⟩ := r
    rw [hr] at h
    simp only [Option.map_some, Option.some.injEq, Prod.mk.injEq] at h
    obtain ⟨h1, rfl⟩ := h
    refine krun_sound hX.f hX.m n k S _ _ _ _ _ hr hl.all ?_
    rcases r1 with (_ | ⟨_, _⟩) | _
    · exact ⟨.inl rfl, hY⟩
    · cases h1
    · exact ⟨.inr rfl, hY⟩
theorem TrG.y {C : ItC P Γ} {i : Nat} {Q : QY P Γ L} {K : List KI} {ops : Array Oper} (hX : HX Fence.wide P) (p : Nat) (live σ : List Nat) (hl : HS c o z v) {x : Array Value} (frT : List DV) (hT : DH) (frF : List DV) (hE : DH)
    (hK : regHead K = some (ops, tailS K)) (hnd : noDefer ops = true) (h : (yrun P Γ ops p S ⟨c, o, z, []⟩).map (outY live σ L) = some (x.toList, C.l, frT, hT, frF, hE, v, true)) (hx : C.encs[i]? = some x) (hc : isCode (tailS K) = true) (hkT : TrG P Γ Fence.wide none L (C.Y L (i + 1)) Q (tailS K) ⟨frT, hT⟩) (hkF : TrG P Γ Fence.wide none L (C.X L) Q (tailS K) ⟨frF, hE⟩) : TrG P Γ Fence.wide none L (C.Y L i) Q K S :=
  TrG.yieldAt hX.f hK hnd p _ live σ frT hT frF hE v h hl.all hx hc hkT hkF
end
section
variable {P : Program} {Γ : Glo} {F : Fence} {B L : Nat} {Y : Yard P Γ L} {Q : QY P Γ L} {fr : List DV} {h : DH} {K : List KI} {a b : Code} {α σ : Type} {l : List α} {H : σ → DH} {FR : α → List DV}
/-- A range, where it stands. -/
theorem TrK.rg (hFw : F = Fence.wide ∨ ∃ l, F = Fence.wide.inRound l) (ex : List Exit) (hex : (ex.all fun e => (exC e).isSome) = true) (kk t : Nat) (ps : Array Tmp) (enc : α → Array Value) (L' : Nat) {f : α → σ → Option (σ × Nat)} {s0 : σ} {rE : σ × Nat} (hf : foldX f l s0 = some rE)
    (hround : ∀ (l B : Nat) (N : Yard P Γ L') (x : α) (s : σ) (r : σ × Nat), f x s = some r → TrA P Γ (Fence.wide.inRound l) (some B) L' N (RndQ L' ex r.2 (H r.1)) a b ⟨FR x, H s⟩)
    (hK : rgSplit K = some (.tmp t, ps, a, b, tailS K)) (hg : opd fr (.tmp t) = .it kk) (hk : h[kk]? = some (some (.iter (l.map enc)))) (hps : ∀ x, (enc x).size = ps.size) (hL : Nat.ble L L' = true) (hfb : fr.all (refB L') = true) (h0 : h.set kk none = H s0) (hfr : (fun x => setPs fr ps.toList (enc x).toList) = FR)
    (hdone : ∀ e, (Exit.normal :: ex)[rE.2]? = some e → TrE P Γ F (some B) L Q (tailS K) e ⟨fr, H rE.1⟩ Y) : TrG P Γ F (some B) L Y Q K ⟨fr, h⟩ :=
  TrK.rangeAt hFw ex hex (.tmp t) ps a b (tailS K) enc l H FR f hf hK hg hk hps L' hL hfb h0 hfr hround hdone
theorem TrK.rg0 (hFw : F = Fence.wide ∨ ∃ l, F = Fence.wide.inRound l) (kk t : Nat) (ps : Array Tmp) (enc : α → Array Value) (L' : Nat) {f : α → σ → Option σ} {s0 sE : σ} (hf : foldO f l s0 = some sE)
    (hround : ∀ (l B : Nat) (N : Yard P Γ L') (x : α) (s r : σ), f x s = some r → TrA P Γ (Fence.wide.inRound l) (some B) L' N (RndQ L' [] 0 (H r)) a b ⟨FR x, H s⟩)
    (hK : rgSplit K = some (.tmp t, ps, a, b, tailS K)) (hg : opd fr (.tmp t) = .it kk) (hk : h[kk]? = some (some (.iter (l.map enc)))) (hps : ∀ x, (enc x).size = ps.size) (hL : Nat.ble L L' = true) (hfb : fr.all (refB L') = true) (h0 : h.set kk none = H s0) (hfr : (fun x => setPs fr ps.toList (enc x).toList) = FR)
    (hdone : TrG P Γ F (some B) L Y Q (tailS K) ⟨fr, H sE⟩) : TrG P Γ F (some B) L Y Q K ⟨fr, h⟩ :=
  TrK.rangeAt0 hFw (.tmp t) ps a b (tailS K) enc l H FR f hf hK hg hk hps L' hL hfb h0 hfr hround hdone
end
end Go.Proofs.YtekkngkphejfcaaDoor
namespace Go.Proofs.YtekkngkphejfcaaDoor
open Go.RowKit
class HC (F : Fence) : Prop where
  x : HX F Tryd.prog
  w : F = Fence.wide ∨ ∃ l, F = Fence.wide.inRound l
instance : HC Fence.wide := ⟨⟨FOk.wide, by kernel_rfl⟩, .inl rfl⟩
instance (l : Nat) : HC (Fence.wide.inRound l) := ⟨⟨FOk.round l, by kernel_rfl⟩, .inr ⟨l, rfl⟩⟩
abbrev DV.i (x : Int) : DV := .int .i64 x
def sch0 : Sch := fun _ => .no
/-- The slots of a frame that hold something. -/
def liveG : Nat → List DV → List Nat
  | _, [] => []
  | i, .any :: r => liveG (i + 1) r
  | i, _ :: r => i :: liveG (i + 1) r
section
variable {F : Fence} {B : Option Nat} {L : Nat} {Y N : Yard Tryd.prog GG L} {Q : QY Tryd.prog GG L} {k k' : List KI} {S : St} {fr : List DV} {h' h2 : DH} {c : List (DV × DH × Bool)} {o : List (Nat × DV)} {z : List (Nat × Fz)} {v w : List Prop}
theorem gz [hX : HC F] (sch : Sch) (σ : List Nat) (hl : HS c o z v) (ks : List Nat) (hz : HS [] [] [] w) (k' : List KI) (fr : List DV) (h' : DH) (hk : TrG Tryd.prog GG F B L Y Q k' ⟨fr, h'⟩) (tg : List (List (Nat × Nat) × St) := [])
    (h : (krun Tryd.prog GG sch 400 k S ⟨c, o, z, tg⟩).bind (outF (liveG 0 fr) σ L ks) = some (.at k', fr, h', v, w, [], [], true) := by kernel_rfl) (hc : isCode k' = true := by kernel_rfl) : TrG Tryd.prog GG F B L Y Q k S :=
  TrK.gS hX.x sch 400 (liveG 0 fr) σ tg hl ks hz k' fr h' h hc hk
theorem gs [hX : HC F] (sch : Sch) (σ : List Nat) (hl : HS c o z v) (k' : List KI) (fr : List DV) (h' : DH) (hk : TrG Tryd.prog GG F B L Y Q k' ⟨fr, h'⟩) (tg : List (List (Nat × Nat) × St) := [])
    (h : (krun Tryd.prog GG sch 400 k S ⟨c, o, z, tg⟩).bind (outF (liveG 0 fr) σ L []) = some (.at k', fr, h', v, [], [], [], true) := by kernel_rfl) (hc : isCode k' = true := by kernel_rfl) : TrG Tryd.prog GG F B L Y Q k S :=
  TrK.gS hX.x sch 400 (liveG 0 fr) σ tg hl [] H0 k' fr h' h hc hk
theorem gg [hX : HC F] (sch : Sch) (σ : List Nat) (hl : HS c o z v) (hk : TrG Tryd.prog GG F B L Y Q k' ⟨fr, h'⟩) (tg : List (List (Nat × Nat) × St) := [])
    (h : (krun Tryd.prog GG sch 400 k S ⟨c, o, z, tg⟩).bind (outF (liveG 0 fr) σ L []) = some (.at k', fr, h', v, [], [], [], true) := by kernel_rfl) (hc : isCode k' = true := by kernel_rfl) : TrG Tryd.prog GG F B L Y Q k S :=
  TrK.gS hX.x sch 400 (liveG 0 fr) σ tg hl [] H0 k' fr h' h hc hk
theorem el [hX : HC F] {fn : Func} {d : DV} (sch : Sch) (live σ : List Nat) (hl : HS c o z v) (ks : List Nat) (hz : HS [] [] [] w) (rs : List DV) (le : DLe (tupD rs) d) (tg : List (List (Nat × Nat) × St) := [])
    (h : (krun Tryd.prog GG sch 400 k S ⟨c, o, z, tg⟩).bind (outE Tryd.prog live σ L ks fn d h2.length) = some (true, rs, h2, v, w, [], [], true) := by kernel_rfl) : TrK Tryd.prog GG F B L N (Fin Tryd.prog fn L d h2) k S :=
  TrK.el hX.x sch 400 live σ tg hl ks hz rs le h
theorem ez [hX : HC F] {fn : Func} {d : DV} (sch : Sch) (live σ : List Nat) (hl : HS c o z v) (ks : List Nat) (hz : HS [] [] [] w) (tg : List (List (Nat × Nat) × St) := [])
    (h : (krun Tryd.prog GG sch 400 k S ⟨c, o, z, tg⟩).bind (fun r => (outE Tryd.prog live σ L ks fn d h2.length r).map fun q => (q.1, tupD q.2.1, q.2.2)) = some (true, d, h2, v, w, [], [], true) := by kernel_rfl) : TrK Tryd.prog GG F B L N (Fin Tryd.prog fn L d h2) k S :=
  TrK.e hX.x sch 400 live σ tg hl ks hz h
theorem ee [hX : HC F] {fn : Func} {d : DV} (sch : Sch) (live σ : List Nat) (hl : HS c o z v) (tg : List (List (Nat × Nat) × St) := [])
    (h : (krun Tryd.prog GG sch 400 k S ⟨c, o, z, tg⟩).bind (fun r => (outE Tryd.prog live σ L [] fn d h2.length r).map fun q => (q.1, tupD q.2.1, q.2.2)) = some (true, d, h2, v, [], [], [], true) := by kernel_rfl) : TrK Tryd.prog GG F B L N (Fin Tryd.prog fn L d h2) k S :=
  TrK.e hX.x sch 400 live σ tg hl [] H0 h
theorem rr [hX : HC F] {ex : List Exit} {i : Nat} {e : Exit} (sch : Sch) (σ : List Nat) (he : (Exit.normal :: ex)[i]? = some e) (hl : HS c o z v) (tg : List (List (Nat × Nat) × St) := [])
    (h : (krun Tryd.prog GG sch 400 k S ⟨c, o, z, tg⟩).map (outR σ L) = some (some e, h2, v, [], [], [], true) := by kernel_rfl) : TrK Tryd.prog GG F B L N (RndQ L ex i h2) k S :=
  TrK.r hX.x sch 400 σ tg hl he h
theorem ag [hX : HC F] {Q : Exit → St → Prop} {assign body : Code} (sch : Sch) (σ : List Nat) (hl : HS c o z v) (fr : List DV) (h' : DH) (hk : ∀ N2 : Yard Tryd.prog GG L, TrK Tryd.prog GG F B L N2 Q [.code body] ⟨fr, h'⟩)
    (h : (krun Tryd.prog GG sch 400 [.code assign] S ⟨c, o, z, []⟩).map (outC (liveG 0 fr) σ L) = some (.at [], fr, h', v, [], [], true) := by kernel_rfl) : TrA Tryd.prog GG F B L N Q assign body S :=
  TrA.g hX.x sch 400 (liveG 0 fr) σ hl fr h' h hk
theorem rd {n m : Nat} (hm : n + 1 ≤ m) (h : ∀ m, n ≤ m → TrG Tryd.prog GG F B L Y Q (unN m k) S) (hk : isLoop k = true := by kernel_rfl) : TrG Tryd.prog GG F B L Y Q (toN m k) S := TrK.round hm hk h
theorem en (m : Nat) (h : TrG Tryd.prog GG F B L Y Q (toN m k) S) (hk : isLoop k = true := by kernel_rfl) : TrG Tryd.prog GG F B L Y Q k S := TrK.enter m hk h
end
theorem em {f : Nat} {ds : List DV} {h : DH} {d : DV} {h' : DH} {ext : Bool} (hES : ES Tryd.prog GG f ds h d h' ext) (σ : List Nat) (H : DH) (hb : embB σ H.length h.length h'.length = true := by kernel_rfl) (hh : (σ.map fun k => H.getD k none) = h.map (upO σ H.length) := by kernel_rfl) : ES Tryd.prog GG f (ds.map (up σ H.length)) H (up σ H.length d) (embH H σ h') ext := ES.emC hES σ H hb hh
theorem fb {f : Nat} {ds : List DV} {d : DV} (h0 : ES Tryd.prog GG f ds [] d [] true) (h : DH) (hds : ds.all nrefB = true := by kernel_rfl) : ES Tryd.prog GG f ds h d h true := ES.frameB h0 h hds
theorem sb {f : Nat} (ds : List DV) {ds0 : List DV} {d : DV} (h0 : ES Tryd.prog GG f ds0 [] d [] true) (h : DH) (hs : allSnap h ds ds0) (hd : scalB d = true := by kernel_rfl) : ES Tryd.prog GG f ds h d h true := ES.snapB h0 h hs hd
theorem ot {f : Nat} {fn : Func} {ds : List DV} {h : DH} {d : DV} {h' : DH} {ext : Bool} (hf : Tryd.prog.funcs[f]? = some fn) (H : ∀ (B : Nat) (N : Yard Tryd.prog GG h.length), TrK Tryd.prog GG Fence.wide (some B) h.length N (Fin Tryd.prog fn h.length d h') (start fn) ⟨ds ++ List.replicate (fn.ntmps - ds.length) .any, h⟩)
    (hb : fn.body.isSome = true := by kernel_rfl) (hname : (fn.name == "runtime.NumGoroutine") = false := by kernel_rfl) (hni : h'.all noIterD = true := by kernel_rfl) (hext : (!ext || h.isEmpty) = true := by kernel_rfl) : ES Tryd.prog GG f ds h d h' ext :=
  ES.of_trk hf hb hname (noIterB hni) (fun e => by subst e; simpa using hext) H
section
variable {F : Fence} {B L : Nat} {Y : Yard Tryd.prog GG L} {Q : QY Tryd.prog GG L} {fr : List DV} {h : DH} {K : List KI} {a b : Code} {α σ : Type} {l : List α} {H : σ → DH} {FR : α → List DV}
theorem rx [hX : HC F] (ex : List Exit) (kk t : Nat) (ps : Array Tmp) (enc : α → Array Value) (L' : Nat) {f : α → σ → Option (σ × Nat)} {s0 : σ} {rE : σ × Nat} (hf : foldX f l s0 = some rE)
    (hround : ∀ (l B : Nat) (N : Yard Tryd.prog GG L') (x : α) (s : σ) (r : σ × Nat), f x s = some r → TrA Tryd.prog GG (Fence.wide.inRound l) (some B) L' N (RndQ L' ex r.2 (H r.1)) a b ⟨FR x, H s⟩)
    (hdone : ∀ e, (Exit.normal :: ex)[rE.2]? = some e → TrE Tryd.prog GG F (some B) L Q (tailS K) e ⟨fr, H rE.1⟩ Y) (hex : (ex.all fun e => (exC e).isSome) = true := by kernel_rfl)
    (hK : rgSplit K = some (.tmp t, ps, a, b, tailS K) := by kernel_rfl) (hg : opd fr (.tmp t) = .it kk := by kernel_rfl) (hk : h[kk]? = some (some (.iter (l.map enc))) := by kernel_rfl) (hps : ∀ x, (enc x).size = ps.size := by exact fun _ => rfl) (hL : Nat.ble L L' = true := by kernel_rfl) (hfb : fr.all (refB L') = true := by kernel_rfl) (h0 : h.set kk none = H s0 := by kernel_rfl) (hfr : (fun x => setPs fr ps.toList (enc x).toList) = FR := by kernel_rfl) : TrG Tryd.prog GG F (some B) L Y Q K ⟨fr, h⟩ :=
  TrK.rg hX.w ex hex kk t ps enc L' hf hround hK hg hk hps hL hfb h0 hfr hdone
theorem r0 [hX : HC F] (kk t : Nat) (ps : Array Tmp) (enc : α → Array Value) (L' : Nat) {f : α → σ → Option σ} {s0 sE : σ} (hf : foldO f l s0 = some sE)
    (hround : ∀ (l B : Nat) (N : Yard Tryd.prog GG L') (x : α) (s r : σ), f x s = some r → TrA Tryd.prog GG (Fence.wide.inRound l) (some B) L' N (RndQ L' [] 0 (H r)) a b ⟨FR x, H s⟩)
    (hdone : TrG Tryd.prog GG F (some B) L Y Q (tailS K) ⟨fr, H sE⟩) 
    (hK : rgSplit K = some (.tmp t, ps, a, b, tailS K) := by kernel_rfl) (hg : opd fr (.tmp t) = .it kk := by kernel_rfl) (hk : h[kk]? = some (some (.iter (l.map enc))) := by kernel_rfl) (hps : ∀ x, (enc x).size = ps.size := by exact fun _ => rfl) (hL : Nat.ble L L' = true := by kernel_rfl) (hfb : fr.all (refB L') = true := by kernel_rfl) (h0 : h.set kk none = H s0 := by kernel_rfl) (hfr : (fun x => setPs fr ps.toList (enc x).toList) = FR := by kernel_rfl) : TrG Tryd.prog GG F (some B) L Y Q K ⟨fr, h⟩ :=
  TrK.rg0 hX.w kk t ps enc L' hf hround hK hg hk hps hL hfb h0 hfr hdone
end
end Go.Proofs.YtekkngkphejfcaaDoor
namespace Go.Proofs.YtekkngkphejfcaaDoor
open Go.RowKit
set_option maxRecDepth 100000
set_option maxHeartbeats 40000000
theorem s_same_6 : SOk (regF Tryd.f13 6) [] (List.range 9) [] := by unfold SOk; kernel_rfl
def sch_same : Sch := fun i => match i with
  | 6 => .ord [] (List.range 9) []
  | _ => .no
inductive samePt where
  | l1 (x5 : Int)
def same_l1 (n : Nat) (self : samePt → Option Bool) (a b_ : List Int) (x5 : Int) : Option Bool :=
  bif (decide (x5 < (a.length : Int))) then
   if (0 ≤ x5 ∧ x5 < (a.length : Int)) ∧ (0 ≤ x5 ∧ x5 < (b_.length : Int)) then
    bif ((a.getD ((x5).toNat) 0) != (b_.getD ((x5).toNat) 0)) then
     some false
    else
     if R64 (x5 + 1) then
      self (.l1 (x5 + 1))
     else none
   else none
  else
   some true
def same_l0 (n : Nat) (self : samePt → Option Bool) (a b_ : List Int) : Option Bool :=
  bif ((a.length : Int) != (b_.length : Int)) then
   some false
  else
   self (.l1 0)
def same_m (a b_ : List Int) : Nat → samePt → Option Bool
  | 0, _ => none
  | n + 1, .l1 x5 => same_l1 n (same_m a b_ n) a b_ x5
def same (n : Nat) (a b_ : List Int) : Option Bool := same_l0 n (same_m a b_ n) a b_
/-- What the points stand for. -/
def same_at (n : Nat) (B : Nat) (N : Yard Tryd.prog GG 0) (a b_ : List Int) (r : Bool) : samePt → Prop
  | .l1 x5 => ∀ m0 : Nat, n ≤ m0 → TrK Tryd.prog GG Fence.wide (some B) 0 N (Fin Tryd.prog Tryd.f13 0 (.bool r) []) (toN m0 (atNC (bodyC Tryd.f13) 0 [])) ⟨frm 26 [(0, .ints a), (1, .ints b_), (5, .i x5)], []⟩
theorem same_all (B : Nat) (N : Yard Tryd.prog GG 0) (a b_ : List Int) : ∀ (n : Nat) (pt : samePt) (r : Bool), same_m a b_ n pt = some r → same_at n B N a b_ r pt := by
  intro n; induction n with
  | zero => intro _ _ h; cases h
  | succ n hself =>
   intro pt r h
   cases pt
   case l1 x5 =>
    have h : same_l1 n (same_m a b_ n) a b_ x5 = some r := h
    intro m0 hm0
    refine rd hm0 fun m0 hm0 => ?_
    unfold same_l1 at h
    rcases bifSome h with ⟨c0, h⟩ | ⟨c0, h⟩
    · obtain ⟨⟨g0, g1⟩, h⟩ := guardSome h
      have p := H0.b 14 c0 |>.g s_same_6 |>.g g0 |>.g g1
      rcases bifSome h with ⟨c1, h⟩ | ⟨c1, h⟩
      · obtain rfl := Option.some.inj h
        exact ee sch_same [4] [] (p.b 25 c1)
      · obtain ⟨g2, h⟩ := guardSome h
        exact gg sch_same [] (p.b 25 c1 |>.w 16 g2) (hself _ _ h m0 hm0)
    · obtain rfl := Option.some.inj h
      exact ee sch_same [4] [] (H0.b 14 c0)
theorem same_ok {n : Nat} {a b_ : List Int} {r : Bool} (h : same n a b_ = some r) : ES Tryd.prog GG 13 [.ints a, .ints b_] [] (.bool r) [] true := by
  refine ot Tryd.func13 fun B N => ?_
  have hself := same_all B N a b_ n
  unfold same at h
  unfold same_l0 at h
  rcases bifSome h with ⟨c0, h⟩ | ⟨c0, h⟩
  · obtain rfl := Option.some.inj h
    exact ee sch_same [4] [] (H0.b 10 c0)
  · exact gg sch_same [] (H0.b 10 c0) (en n (hself _ _ h n (Nat.le_refl _)))
inductive hasPt where
  | l1 (x5 : Int)
def has_l1 (n : Nat) (self : hasPt → Option Bool) (l_ : List Int) (n_ : Int) (x5 : Int) : Option Bool :=
  bif (decide (x5 < (l_.length : Int))) then
   if 0 ≤ x5 ∧ x5 < (l_.length : Int) then
    bif ((l_.getD ((x5).toNat) 0) == n_) then
     some true
    else
     if R64 (x5 + 1) then
      self (.l1 (x5 + 1))
     else none
   else none
  else
   some false
def has_l0 (n : Nat) (self : hasPt → Option Bool) (l_ : List Int) (n_ : Int) : Option Bool :=
  self (.l1 0)
def has_m (l_ : List Int) (n_ : Int) : Nat → hasPt → Option Bool
  | 0, _ => none
  | n + 1, .l1 x5 => has_l1 n (has_m l_ n_ n) l_ n_ x5
def has (n : Nat) (l_ : List Int) (n_ : Int) : Option Bool := has_l0 n (has_m l_ n_ n) l_ n_
/-- What the points stand for. -/
def has_at (n : Nat) (B : Nat) (N : Yard Tryd.prog GG 0) (l_ : List Int) (n_ : Int) (r : Bool) : hasPt → Prop
  | .l1 x5 => ∀ m0 : Nat, n ≤ m0 → TrK Tryd.prog GG Fence.wide (some B) 0 N (Fin Tryd.prog Tryd.f56 0 (.bool r) []) (toN m0 (atNC (bodyC Tryd.f56) 0 [])) ⟨frm 18 [(0, .ints l_), (1, .i n_), (5, .i x5)], []⟩
theorem has_all (B : Nat) (N : Yard Tryd.prog GG 0) (l_ : List Int) (n_ : Int) : ∀ (n : Nat) (pt : hasPt) (r : Bool), has_m l_ n_ n pt = some r → has_at n B N l_ n_ r pt := by
  intro n; induction n with
  | zero => intro _ _ h; cases h
  | succ n hself =>
   intro pt r h
   cases pt
   case l1 x5 =>
    have h : has_l1 n (has_m l_ n_ n) l_ n_ x5 = some r := h
    intro m0 hm0
    refine rd hm0 fun m0 hm0 => ?_
    unfold has_l1 at h
    rcases bifSome h with ⟨c0, h⟩ | ⟨c0, h⟩
    · obtain ⟨g0, h⟩ := guardSome h
      have p := H0.b 9 c0 |>.g g0
      rcases bifSome h with ⟨c1, h⟩ | ⟨c1, h⟩
      · obtain rfl := Option.some.inj h
        exact ee sch0 [4] [] (p.b 17 c1)
      · obtain ⟨g1, h⟩ := guardSome h
        exact gg sch0 [] (p.b 17 c1 |>.w 11 g1) (hself _ _ h m0 hm0)
    · obtain rfl := Option.some.inj h
      exact ee sch0 [4] [] (H0.b 9 c0)
theorem has_ok {n : Nat} {l_ : List Int} {n_ : Int} {r : Bool} (h : has n l_ n_ = some r) : ES Tryd.prog GG 56 [.ints l_, .i n_] [] (.bool r) [] true := by
  refine ot Tryd.func56 fun B N => ?_
  have hself := has_all B N l_ n_ n
  unfold has at h
  unfold has_l0 at h
  exact gg sch0 [] H0 (en n (hself _ _ h n (Nat.le_refl _)))
inductive betweenPt where
  | l1 (x7 : Int)
def between_l1 (n : Nat) (self : betweenPt → Option Bool) (l_ : List Int) (lo hi : Int) (x7 : Int) : Option Bool :=
  bif (decide (x7 < (l_.length : Int))) then
   if 0 ≤ x7 ∧ x7 < (l_.length : Int) then
    bif (decide ((l_.getD ((x7).toNat) 0) < lo)) then
     some false
    else
     bif (decide ((l_.getD ((x7).toNat) 0) > hi)) then
      some false
     else
      if R64 (x7 + 1) then
       self (.l1 (x7 + 1))
      else none
   else none
  else
   some true
def between_l0 (n : Nat) (self : betweenPt → Option Bool) (l_ : List Int) (lo hi : Int) : Option Bool :=
  self (.l1 0)
def between_m (l_ : List Int) (lo hi : Int) : Nat → betweenPt → Option Bool
  | 0, _ => none
  | n + 1, .l1 x7 => between_l1 n (between_m l_ lo hi n) l_ lo hi x7
def between (n : Nat) (l_ : List Int) (lo hi : Int) : Option Bool := between_l0 n (between_m l_ lo hi n) l_ lo hi
/-- What the points stand for. -/
def between_at (n : Nat) (B : Nat) (N : Yard Tryd.prog GG 0) (l_ : List Int) (lo hi : Int) (r : Bool) : betweenPt → Prop
  | .l1 x7 => ∀ m0 : Nat, n ≤ m0 → TrK Tryd.prog GG Fence.wide (some B) 0 N (Fin Tryd.prog Tryd.f36 0 (.bool r) []) (toN m0 (atNC (bodyC Tryd.f36) 0 [])) ⟨frm 28 [(0, .ints l_), (1, .i lo), (2, .i hi), (7, .i x7)], []⟩
theorem between_all (B : Nat) (N : Yard Tryd.prog GG 0) (l_ : List Int) (lo hi : Int) : ∀ (n : Nat) (pt : betweenPt) (r : Bool), between_m l_ lo hi n pt = some r → between_at n B N l_ lo hi r pt := by
  intro n; induction n with
  | zero => intro _ _ h; cases h
  | succ n hself =>
   intro pt r h
   cases pt
   case l1 x7 =>
    have h : between_l1 n (between_m l_ lo hi n) l_ lo hi x7 = some r := h
    intro m0 hm0
    refine rd hm0 fun m0 hm0 => ?_
    unfold between_l1 at h
    rcases bifSome h with ⟨c0, h⟩ | ⟨c0, h⟩
    · obtain ⟨g0, h⟩ := guardSome h
      have p := H0.b 11 c0 |>.g g0
      rcases bifSome h with ⟨c1, h⟩ | ⟨c1, h⟩
      · obtain rfl := Option.some.inj h
        exact ee sch0 [6] [] (p.b 19 c1)
      · have p := p.b 19 c1 |>.g g0
        rcases bifSome h with ⟨c2, h⟩ | ⟨c2, h⟩
        · obtain rfl := Option.some.inj h
          exact ee sch0 [6] [] (p.b 26 c2)
        · obtain ⟨g1, h⟩ := guardSome h
          exact gg sch0 [] (p.b 26 c2 |>.w 13 g1) (hself _ _ h m0 hm0)
    · obtain rfl := Option.some.inj h
      exact ee sch0 [6] [] (H0.b 11 c0)
theorem between_ok {n : Nat} {l_ : List Int} {lo hi : Int} {r : Bool} (h : between n l_ lo hi = some r) : ES Tryd.prog GG 36 [.ints l_, .i lo, .i hi] [] (.bool r) [] true := by
  refine ot Tryd.func36 fun B N => ?_
  have hself := between_all B N l_ lo hi n
  unfold between at h
  unfold between_l0 at h
  exact gg sch0 [] H0 (en n (hself _ _ h n (Nat.le_refl _)))
theorem s_different_7 : SOk (regF Tryd.f57 7) [] (List.range 9) [] := by unfold SOk; kernel_rfl
def sch_different : Sch := fun i => match i with
  | 7 => .ord [] (List.range 9) []
  | _ => .no
inductive differentPt where
  | l1 (x3 : Int)
  | l2 (x3 x4 : Int)
def different_l1 (n : Nat) (self : differentPt → Option Bool) (l_ : List Int) (x3 : Int) : Option Bool :=
  bif (decide (x3 < (l_.length : Int))) then
   self (.l2 x3 0)
  else
   some true
def different_l2 (n : Nat) (self : differentPt → Option Bool) (l_ : List Int) (x3 x4 : Int) : Option Bool :=
  bif (decide (x4 < x3)) then
   if (0 ≤ x3 ∧ x3 < (l_.length : Int)) ∧ (0 ≤ x4 ∧ x4 < (l_.length : Int)) then
    bif ((l_.getD ((x3).toNat) 0) == (l_.getD ((x4).toNat) 0)) then
     some false
    else
     if R64 (x4 + 1) then
      self (.l2 x3 (x4 + 1))
     else none
   else none
  else
   if R64 (x3 + 1) then
    self (.l1 (x3 + 1))
   else none
def different_l0 (n : Nat) (self : differentPt → Option Bool) (l_ : List Int) : Option Bool :=
  self (.l1 0)
def different_m (l_ : List Int) : Nat → differentPt → Option Bool
  | 0, _ => none
  | n + 1, .l1 x3 => different_l1 n (different_m l_ n) l_ x3
  | n + 1, .l2 x3 x4 => different_l2 n (different_m l_ n) l_ x3 x4
def different (n : Nat) (l_ : List Int) : Option Bool := different_l0 n (different_m l_ n) l_
/-- What the points stand for. -/
def different_at (n : Nat) (B : Nat) (N : Yard Tryd.prog GG 0) (l_ : List Int) (r : Bool) : differentPt → Prop
  | .l1 x3 => ∀ m0 : Nat, n ≤ m0 → TrK Tryd.prog GG Fence.wide (some B) 0 N (Fin Tryd.prog Tryd.f57 0 (.bool r) []) (toN m0 (atNC (bodyC Tryd.f57) 0 [])) ⟨frm 25 [(0, .ints l_), (3, .i x3)], []⟩
  | .l2 x3 x4 => ∀ m0 m1 : Nat, n ≤ m0 → n ≤ m1 → TrK Tryd.prog GG Fence.wide (some B) 0 N (Fin Tryd.prog Tryd.f57 0 (.bool r) []) (toN m1 (atNC (bodyC Tryd.f57) 2 [m0])) ⟨frm 25 [(0, .ints l_), (3, .i x3), (4, .i x4)], []⟩
theorem different_all (B : Nat) (N : Yard Tryd.prog GG 0) (l_ : List Int) : ∀ (n : Nat) (pt : differentPt) (r : Bool), different_m l_ n pt = some r → different_at n B N l_ r pt := by
  intro n; induction n with
  | zero => intro _ _ h; cases h
  | succ n hself =>
   intro pt r h
   cases pt
   case l1 x3 =>
    have h : different_l1 n (different_m l_ n) l_ x3 = some r := h
    intro m0 hm0
    refine rd hm0 fun m0 hm0 => ?_
    unfold different_l1 at h
    rcases bifSome h with ⟨c0, h⟩ | ⟨c0, h⟩
    · exact gg sch_different [] (H0.b 8 c0) (en n (hself _ _ h m0 n hm0 (Nat.le_refl _)))
    · obtain rfl := Option.some.inj h
      exact ee sch_different [2] [] (H0.b 8 c0)
   case l2 x3 x4 =>
    have h : different_l2 n (different_m l_ n) l_ x3 x4 = some r := h
    intro m0 m1 hm0 hm1
    have hm0 := Nat.le_of_succ_le hm0
    refine rd hm1 fun m1 hm1 => ?_
    unfold different_l2 at h
    rcases bifSome h with ⟨c0, h⟩ | ⟨c0, h⟩
    · obtain ⟨⟨g0, g1⟩, h⟩ := guardSome h
      have p := H0.b 13 c0 |>.g s_different_7 |>.g g0 |>.g g1
      rcases bifSome h with ⟨c1, h⟩ | ⟨c1, h⟩
      · obtain rfl := Option.some.inj h
        exact ee sch_different [2] [] (p.b 24 c1)
      · obtain ⟨g2, h⟩ := guardSome h
        exact gg sch_different [] (p.b 24 c1 |>.w 15 g2) (hself _ _ h m0 m1 hm0 hm1)
    · obtain ⟨g0, h⟩ := guardSome h
      exact gg sch_different [] (H0.b 13 c0 |>.w 10 g0) (hself _ _ h m0 hm0)
theorem different_ok {n : Nat} {l_ : List Int} {r : Bool} (h : different n l_ = some r) : ES Tryd.prog GG 57 [.ints l_] [] (.bool r) [] true := by
  refine ot Tryd.func57 fun B N => ?_
  have hself := different_all B N l_ n
  unfold different at h
  unfold different_l0 at h
  exact gg sch_different [] H0 (en n (hself _ _ h n (Nat.le_refl _)))
inductive indexIPt where
  | l1 (x8 : Int)
def indexI_l1 (n : Nat) (self : indexIPt → Option Int) (s_ : List Int) (v : Int) (x8 : Int) : Option Int :=
  bif (decide (x8 < (s_.length : Int))) then
   if 0 ≤ x8 ∧ x8 < (s_.length : Int) then
    bif (v == (s_.getD ((x8).toNat) 0)) then
     some x8
    else
     if R64 (x8 + 1) then
      self (.l1 (x8 + 1))
     else none
   else none
  else
   some (-1)
def indexI_l0 (n : Nat) (self : indexIPt → Option Int) (s_ : List Int) (v : Int) : Option Int :=
  self (.l1 0)
def indexI_m (s_ : List Int) (v : Int) : Nat → indexIPt → Option Int
  | 0, _ => none
  | n + 1, .l1 x8 => indexI_l1 n (indexI_m s_ v n) s_ v x8
def indexI (n : Nat) (s_ : List Int) (v : Int) : Option Int := indexI_l0 n (indexI_m s_ v n) s_ v
/-- What the points stand for. -/
def indexI_at (n : Nat) (B : Nat) (N : Yard Tryd.prog GG 0) (s_ : List Int) (v : Int) (r : Int) : indexIPt → Prop
  | .l1 x8 => ∀ m0 : Nat, n ≤ m0 → TrK Tryd.prog GG Fence.wide (some B) 0 N (Fin Tryd.prog Tryd.f72 0 (.i r) []) (toN m0 (atNC (bodyC Tryd.f72) 0 [])) ⟨frm 19 [(0, .ints s_), (1, .i v), (7, .i (s_.length : Int)), (8, .i x8)], []⟩
theorem indexI_all (B : Nat) (N : Yard Tryd.prog GG 0) (s_ : List Int) (v : Int) : ∀ (n : Nat) (pt : indexIPt) (r : Int), indexI_m s_ v n pt = some r → indexI_at n B N s_ v r pt := by
  intro n; induction n with
  | zero => intro _ _ h; cases h
  | succ n hself =>
   intro pt r h
   cases pt
   case l1 x8 =>
    have h : indexI_l1 n (indexI_m s_ v n) s_ v x8 = some r := h
    intro m0 hm0
    refine rd hm0 fun m0 hm0 => ?_
    unfold indexI_l1 at h
    rcases bifSome h with ⟨c0, h⟩ | ⟨c0, h⟩
    · obtain ⟨g0, h⟩ := guardSome h
      have p := H0.b 9 c0 |>.g g0
      rcases bifSome h with ⟨c1, h⟩ | ⟨c1, h⟩
      · obtain rfl := Option.some.inj h
        exact ee sch0 [4] [] (p.b 16 c1)
      · obtain ⟨g1, h⟩ := guardSome h
        exact gg sch0 [] (p.b 16 c1 |>.w 18 g1) (hself _ _ h m0 hm0)
    · cases h
      exact ee sch0 [4] [] (H0.b 9 c0)
theorem indexI_ok {n : Nat} {s_ : List Int} {v : Int} {r : Int} (h : indexI n s_ v = some r) : ES Tryd.prog GG 72 [.ints s_, .i v] [] (.i r) [] true := by
  refine ot Tryd.func72 fun B N => ?_
  have hself := indexI_all B N s_ v n
  unfold indexI at h
  unfold indexI_l0 at h
  exact gg sch0 [] H0 (en n (hself _ _ h n (Nat.le_refl _)))
inductive indexBPt where
  | l1 (x8 : Int)
def indexB_l1 (n : Nat) (self : indexBPt → Option Int) (s_ : List Bool) (v : Bool) (x8 : Int) : Option Int :=
  bif (decide (x8 < (s_.length : Int))) then
   if 0 ≤ x8 ∧ x8 < (s_.length : Int) then
    bif (v == (s_.getD ((x8).toNat) false)) then
     some x8
    else
     if R64 (x8 + 1) then
      self (.l1 (x8 + 1))
     else none
   else none
  else
   some (-1)
def indexB_l0 (n : Nat) (self : indexBPt → Option Int) (s_ : List Bool) (v : Bool) : Option Int :=
  self (.l1 0)
def indexB_m (s_ : List Bool) (v : Bool) : Nat → indexBPt → Option Int
  | 0, _ => none
  | n + 1, .l1 x8 => indexB_l1 n (indexB_m s_ v n) s_ v x8
def indexB (n : Nat) (s_ : List Bool) (v : Bool) : Option Int := indexB_l0 n (indexB_m s_ v n) s_ v
/-- What the points stand for. -/
def indexB_at (n : Nat) (B : Nat) (N : Yard Tryd.prog GG 0) (s_ : List Bool) (v : Bool) (r : Int) : indexBPt → Prop
  | .l1 x8 => ∀ m0 : Nat, n ≤ m0 → TrK Tryd.prog GG Fence.wide (some B) 0 N (Fin Tryd.prog Tryd.f74 0 (.i r) []) (toN m0 (atNC (bodyC Tryd.f74) 0 [])) ⟨frm 19 [(0, .bools s_), (1, .bool v), (7, .i (s_.length : Int)), (8, .i x8)], []⟩
theorem indexB_all (B : Nat) (N : Yard Tryd.prog GG 0) (s_ : List Bool) (v : Bool) : ∀ (n : Nat) (pt : indexBPt) (r : Int), indexB_m s_ v n pt = some r → indexB_at n B N s_ v r pt := by
  intro n; induction n with
  | zero => intro _ _ h; cases h
  | succ n hself =>
   intro pt r h
   cases pt
   case l1 x8 =>
    have h : indexB_l1 n (indexB_m s_ v n) s_ v x8 = some r := h
    intro m0 hm0
    refine rd hm0 fun m0 hm0 => ?_
    unfold indexB_l1 at h
    rcases bifSome h with ⟨c0, h⟩ | ⟨c0, h⟩
    · obtain ⟨g0, h⟩ := guardSome h
      have p := H0.b 9 c0 |>.g g0
      rcases bifSome h with ⟨c1, h⟩ | ⟨c1, h⟩
      · obtain rfl := Option.some.inj h
        exact ee sch0 [4] [] (p.b 16 c1)
      · obtain ⟨g1, h⟩ := guardSome h
        exact gg sch0 [] (p.b 16 c1 |>.w 18 g1) (hself _ _ h m0 hm0)
    · cases h
      exact ee sch0 [4] [] (H0.b 9 c0)
theorem indexB_ok {n : Nat} {s_ : List Bool} {v : Bool} {r : Int} (h : indexB n s_ v = some r) : ES Tryd.prog GG 74 [.bools s_, .bool v] [] (.i r) [] true := by
  refine ot Tryd.func74 fun B N => ?_
  have hself := indexB_all B N s_ v n
  unfold indexB at h
  unfold indexB_l0 at h
  exact gg sch0 [] H0 (en n (hself _ _ h n (Nat.le_refl _)))
def containsI_l0 (n : Nat) (s_ : List Int) (v : Int) : Option Bool :=
  (indexI n s_ v).bind fun y1 =>
   some (decide (y1 ≥ 0))
def containsI (n : Nat) (s_ : List Int) (v : Int) : Option Bool := containsI_l0 n s_ v
theorem containsI_ok {n : Nat} {s_ : List Int} {v : Int} {r : Bool} (h : containsI n s_ v = some r) : ES Tryd.prog GG 54 [.ints s_, .i v] [] (.bool r) [] true := by
  refine ot Tryd.func54 fun B N => ?_
  unfold containsI at h
  unfold containsI_l0 at h
  obtain ⟨y1, hy1, h⟩ := bindSome h
  cases h
  exact ee sch0 [4] [] (H0.c (fb (indexI_ok hy1) []))
inductive rcheckPt where
  | l1 (x3 : Int)
  | l2 (x3 x4 : Int)
def rcheck_l1 (n : Nat) (self : rcheckPt → Option Int) (g_ : List (List Int)) (x3 : Int) : Option Int :=
  bif (decide (x3 < (g_.length : Int))) then
   self (.l2 x3 0)
  else
   some 0
def rcheck_l2 (n : Nat) (self : rcheckPt → Option Int) (g_ : List (List Int)) (x3 x4 : Int) : Option Int :=
  if 0 ≤ x3 ∧ x3 < (g_.length : Int) then
   bif (decide (x4 < (((g_.getD ((x3).toNat) []).length : Nat) : Int))) then
    if 0 ≤ x4 ∧ x4 < (((g_.getD ((x3).toNat) []).length : Nat) : Int) then
     bif (decide (((g_.getD ((x3).toNat) []).getD ((x4).toNat) 0) < 0)) then
      some 120
     else
      bif (decide (((g_.getD ((x3).toNat) []).getD ((x4).toNat) 0) ≥ (g_.length : Int))) then
       some 120
      else
       bif (((g_.getD ((x3).toNat) []).getD ((x4).toNat) 0) == x3) then
        some 120
       else
        bif (decide (x4 > 0)) then
         if R64 (x4 - 1) ∧ (0 ≤ (x4 - 1) ∧ (x4 - 1) < (((g_.getD ((x3).toNat) []).length : Nat) : Int)) then
          bif (decide (((g_.getD ((x3).toNat) []).getD (((x4 - 1)).toNat) 0) ≥ ((g_.getD ((x3).toNat) []).getD ((x4).toNat) 0))) then
           some 120
          else
           if (0 : Int) ≤ ((g_.getD ((x3).toNat) []).getD ((x4).toNat) 0) ∧ ((g_.getD ((x3).toNat) []).getD ((x4).toNat) 0) < (g_.length : Int) then
            (has n (g_.getD (((g_.getD ((x3).toNat) []).getD ((x4).toNat) 0).toNat) []) x3).bind fun y1 =>
             bif (!y1) then
              some 120
             else
              if R64 (x4 + 1) then
               self (.l2 x3 (x4 + 1))
              else none
           else none
         else none
        else
         if (0 : Int) ≤ ((g_.getD ((x3).toNat) []).getD ((x4).toNat) 0) ∧ ((g_.getD ((x3).toNat) []).getD ((x4).toNat) 0) < (g_.length : Int) then
          (has n (g_.getD (((g_.getD ((x3).toNat) []).getD ((x4).toNat) 0).toNat) []) x3).bind fun y1 =>
           bif (!y1) then
            some 120
           else
            if R64 (x4 + 1) then
             self (.l2 x3 (x4 + 1))
            else none
         else none
    else none
   else
    if R64 (x3 + 1) then
     self (.l1 (x3 + 1))
    else none
  else none
def rcheck_l0 (n : Nat) (self : rcheckPt → Option Int) (g_ : List (List Int)) : Option Int :=
  bif (decide ((g_.length : Int) > 256)) then
   some 120
  else
   self (.l1 0)
def rcheck_m (g_ : List (List Int)) : Nat → rcheckPt → Option Int
  | 0, _ => none
  | n + 1, .l1 x3 => rcheck_l1 n (rcheck_m g_ n) g_ x3
  | n + 1, .l2 x3 x4 => rcheck_l2 n (rcheck_m g_ n) g_ x3 x4
def rcheck (n : Nat) (g_ : List (List Int)) : Option Int := rcheck_l0 n (rcheck_m g_ n) g_
/-- What the points stand for. -/
def rcheck_at (n : Nat) (B : Nat) (N : Yard Tryd.prog GG 0) (g_ : List (List Int)) (r : Int) : rcheckPt → Prop
  | .l1 x3 => ∀ m0 : Nat, n ≤ m0 → TrK Tryd.prog GG Fence.wide (some B) 0 N (Fin Tryd.prog Tryd.f37 0 (.i r) []) (toN m0 (atNC (bodyC Tryd.f37) 0 [])) ⟨frm 69 [(0, .sl 1 g_.length (rowE intsC g_)), (3, .i x3)], []⟩
  | .l2 x3 x4 => ∀ m0 m1 : Nat, n ≤ m0 → n ≤ m1 → TrK Tryd.prog GG Fence.wide (some B) 0 N (Fin Tryd.prog Tryd.f37 0 (.i r) []) (toN m1 (atNC (bodyC Tryd.f37) 2 [m0])) ⟨frm 69 [(0, .sl 1 g_.length (rowE intsC g_)), (3, .i x3), (4, .i x4)], []⟩
theorem rcheck_all (B : Nat) (N : Yard Tryd.prog GG 0) (g_ : List (List Int)) : ∀ (n : Nat) (pt : rcheckPt) (r : Int), rcheck_m g_ n pt = some r → rcheck_at n B N g_ r pt := by
  intro n; induction n with
  | zero => intro _ _ h; cases h
  | succ n hself =>
   intro pt r h
   cases pt
   case l1 x3 =>
    have h : rcheck_l1 n (rcheck_m g_ n) g_ x3 = some r := h
    intro m0 hm0
    refine rd hm0 fun m0 hm0 => ?_
    unfold rcheck_l1 at h
    rcases bifSome h with ⟨c0, h⟩ | ⟨c0, h⟩
    · exact gg sch0 [] (H0.b 12 c0) (en n (hself _ _ h m0 n hm0 (Nat.le_refl _)))
    · obtain rfl := Option.some.inj h
      exact ee sch0 [2] [] (H0.b 12 c0)
   case l2 x3 x4 =>
    have h : rcheck_l2 n (rcheck_m g_ n) g_ x3 x4 = some r := h
    intro m0 m1 hm0 hm1
    have hm0 := Nat.le_of_succ_le hm0
    refine rd hm1 fun m1 hm1 => ?_
    unfold rcheck_l2 at h
    obtain ⟨g0, h⟩ := guardSome h
    have p := H0.g g0
    rcases bifSome h with ⟨c0, h⟩ | ⟨c0, h⟩
    · obtain ⟨g1, h⟩ := guardSome h
      have p := p.b 21 c0 |>.g g0 |>.g g1
      rcases bifSome h with ⟨c1, h⟩ | ⟨c1, h⟩
      · obtain rfl := Option.some.inj h
        exact ee sch0 [2] [] (p.b 32 c1)
      · have p := p.b 32 c1
        rcases bifSome h with ⟨c2, h⟩ | ⟨c2, h⟩
        · obtain rfl := Option.some.inj h
          exact ee sch0 [2] [] (p.b 37 c2)
        · have p := p.b 37 c2
          rcases bifSome h with ⟨c3, h⟩ | ⟨c3, h⟩
          · obtain rfl := Option.some.inj h
            exact ee sch0 [2] [] (p.b 42 c3)
          · have p := p.b 42 c3
            rcases bifSome h with ⟨c4, h⟩ | ⟨c4, h⟩
            · obtain ⟨⟨g2, g3⟩, h⟩ := guardSome h
              have p := p.b 46 c4 |>.g g0 |>.w 53 g2 |>.g g3
              rcases bifSome h with ⟨c5, h⟩ | ⟨c5, h⟩
              · obtain rfl := Option.some.inj h
                exact ee sch0 [2] [] (p.b 57 c5)
              · obtain ⟨g4, h⟩ := guardSome h
                obtain ⟨y1, hy1, h⟩ := bindSome h
                have p := p.b 57 c5 |>.g g4 |>.c (fb (has_ok hy1) [])
                rcases bifSome h with ⟨c6, h⟩ | ⟨c6, h⟩
                · obtain rfl := Option.some.inj h
                  exact ee sch0 [2] [] (p.b 67 c6)
                · obtain ⟨g5, h⟩ := guardSome h
                  exact gg sch0 [] (p.b 67 c6 |>.w 23 g5) (hself _ _ h m0 m1 hm0 hm1)
            · obtain ⟨g2, h⟩ := guardSome h
              obtain ⟨y1, hy1, h⟩ := bindSome h
              have p := p.b 46 c4 |>.g g2 |>.c (fb (has_ok hy1) [])
              rcases bifSome h with ⟨c5, h⟩ | ⟨c5, h⟩
              · obtain rfl := Option.some.inj h
                exact ee sch0 [2] [] (p.b 67 c5)
              · obtain ⟨g3, h⟩ := guardSome h
                exact gg sch0 [] (p.b 67 c5 |>.w 23 g3) (hself _ _ h m0 m1 hm0 hm1)
    · obtain ⟨g1, h⟩ := guardSome h
      exact gg sch0 [] (p.b 21 c0 |>.w 14 g1) (hself _ _ h m0 hm0)
theorem rcheck_ok {n : Nat} {g_ : List (List Int)} {r : Int} (h : rcheck n g_ = some r) : ES Tryd.prog GG 37 [.sl 1 g_.length (rowE intsC g_)] [] (.i r) [] true := by
  refine ot Tryd.func37 fun B N => ?_
  have hself := rcheck_all B N g_ n
  unfold rcheck at h
  unfold rcheck_l0 at h
  rcases bifSome h with ⟨c0, h⟩ | ⟨c0, h⟩
  · obtain rfl := Option.some.inj h
    exact ee sch0 [2] [] (H0.b 8 c0)
  · exact gg sch0 [] (H0.b 8 c0) (en n (hself _ _ h n (Nat.le_refl _)))
inductive gcheckPt where
  | l1 (x12 : Int)
  | l2 (x3 : Int) (x4 : List Int) (x12 : Int) (x17 : List Int) (x18 x19 : Int)
def gcheck_l1 (n : Nat) (self : gcheckPt → Option Int) (g_ : List (List Int)) (x12 : Int) : Option Int :=
  bif (decide (x12 < (g_.length : Int))) then
   if 0 ≤ x12 ∧ x12 < (g_.length : Int) then
    self (.l2 x12 (g_.getD ((x12).toNat) []) x12 (g_.getD ((x12).toNat) []) (((g_.getD ((x12).toNat) []).length : Nat) : Int) 0)
   else none
  else
   some 0
def gcheck_l2 (n : Nat) (self : gcheckPt → Option Int) (g_ : List (List Int)) (x3 : Int) (x4 : List Int) (x12 : Int) (x17 : List Int) (x18 x19 : Int) : Option Int :=
  bif (decide (x19 < x18)) then
   if 0 ≤ x19 ∧ x19 < (x17.length : Int) then
    bif (decide ((x17.getD ((x19).toNat) 0) < 0)) then
     some 120
    else
     bif (decide ((x17.getD ((x19).toNat) 0) ≥ (g_.length : Int))) then
      some 120
     else
      bif ((x17.getD ((x19).toNat) 0) == x3) then
       some 120
      else
       bif (decide (x19 > 0)) then
        if R64 (x19 - 1) ∧ (0 ≤ (x19 - 1) ∧ (x19 - 1) < (x4.length : Int)) then
         bif (decide ((x4.getD (((x19 - 1)).toNat) 0) ≥ (x17.getD ((x19).toNat) 0))) then
          some 120
         else
          if 0 ≤ (x17.getD ((x19).toNat) 0) ∧ (x17.getD ((x19).toNat) 0) < (g_.length : Int) then
           (containsI n (g_.getD ((x17.getD ((x19).toNat) 0).toNat) []) x3).bind fun y1 =>
            bif (!y1) then
             some 120
            else
             if R64 (x19 + 1) then
              self (.l2 x3 x4 x12 x17 x18 (x19 + 1))
             else none
          else none
        else none
       else
        if 0 ≤ (x17.getD ((x19).toNat) 0) ∧ (x17.getD ((x19).toNat) 0) < (g_.length : Int) then
         (containsI n (g_.getD ((x17.getD ((x19).toNat) 0).toNat) []) x3).bind fun y1 =>
          bif (!y1) then
           some 120
          else
           if R64 (x19 + 1) then
            self (.l2 x3 x4 x12 x17 x18 (x19 + 1))
           else none
        else none
   else none
  else
   if R64 (x12 + 1) then
    self (.l1 (x12 + 1))
   else none
def gcheck_l0 (n : Nat) (self : gcheckPt → Option Int) (g_ : List (List Int)) : Option Int :=
  bif (decide ((g_.length : Int) > 256)) then
   some 120
  else
   self (.l1 0)
def gcheck_m (g_ : List (List Int)) : Nat → gcheckPt → Option Int
  | 0, _ => none
  | n + 1, .l1 x12 => gcheck_l1 n (gcheck_m g_ n) g_ x12
  | n + 1, .l2 x3 x4 x12 x17 x18 x19 => gcheck_l2 n (gcheck_m g_ n) g_ x3 x4 x12 x17 x18 x19
def gcheck (n : Nat) (g_ : List (List Int)) : Option Int := gcheck_l0 n (gcheck_m g_ n) g_
/-- What the points stand for. -/
def gcheck_at (n : Nat) (B : Nat) (N : Yard Tryd.prog GG 0) (g_ : List (List Int)) (r : Int) : gcheckPt → Prop
  | .l1 x12 => ∀ m0 : Nat, n ≤ m0 → TrK Tryd.prog GG Fence.wide (some B) 0 N (Fin Tryd.prog Tryd.f32 0 (.i r) []) (toN m0 (atNC (bodyC Tryd.f32) 0 [])) ⟨frm 61 [(0, .sl 1 g_.length (rowE intsC g_)), (10, .sl 1 g_.length (rowE intsC g_)), (11, .i (g_.length : Int)), (12, .i x12)], []⟩
  | .l2 x3 x4 x12 x17 x18 x19 => ∀ m0 m1 : Nat, n ≤ m0 → n ≤ m1 → TrK Tryd.prog GG Fence.wide (some B) 0 N (Fin Tryd.prog Tryd.f32 0 (.i r) []) (toN m1 (atNC (bodyC Tryd.f32) 2 [m0])) ⟨frm 61 [(0, .sl 1 g_.length (rowE intsC g_)), (3, .i x3), (4, .ints x4), (10, .sl 1 g_.length (rowE intsC g_)), (11, .i (g_.length : Int)), (12, .i x12), (17, .ints x17), (18, .i x18), (19, .i x19)], []⟩
theorem gcheck_all (B : Nat) (N : Yard Tryd.prog GG 0) (g_ : List (List Int)) : ∀ (n : Nat) (pt : gcheckPt) (r : Int), gcheck_m g_ n pt = some r → gcheck_at n B N g_ r pt := by
  intro n; induction n with
  | zero => intro _ _ h; cases h
  | succ n hself =>
   intro pt r h
   cases pt
   case l1 x12 =>
    have h : gcheck_l1 n (gcheck_m g_ n) g_ x12 = some r := h
    intro m0 hm0
    refine rd hm0 fun m0 hm0 => ?_
    unfold gcheck_l1 at h
    rcases bifSome h with ⟨c0, h⟩ | ⟨c0, h⟩
    · obtain ⟨g0, h⟩ := guardSome h
      exact gg sch0 [] (H0.b 13 c0 |>.g g0) (en n (hself _ _ h m0 n hm0 (Nat.le_refl _)))
    · obtain rfl := Option.some.inj h
      exact ee sch0 [2] [] (H0.b 13 c0)
   case l2 x3 x4 x12 x17 x18 x19 =>
    have h : gcheck_l2 n (gcheck_m g_ n) g_ x3 x4 x12 x17 x18 x19 = some r := h
    intro m0 m1 hm0 hm1
    have hm0 := Nat.le_of_succ_le hm0
    refine rd hm1 fun m1 hm1 => ?_
    unfold gcheck_l2 at h
    rcases bifSome h with ⟨c0, h⟩ | ⟨c0, h⟩
    · obtain ⟨g0, h⟩ := guardSome h
      have p := H0.b 20 c0 |>.g g0
      rcases bifSome h with ⟨c1, h⟩ | ⟨c1, h⟩
      · obtain rfl := Option.some.inj h
        exact ee sch0 [2] [] (p.b 25 c1)
      · have p := p.b 25 c1
        rcases bifSome h with ⟨c2, h⟩ | ⟨c2, h⟩
        · obtain rfl := Option.some.inj h
          exact ee sch0 [2] [] (p.b 30 c2)
        · have p := p.b 30 c2
          rcases bifSome h with ⟨c3, h⟩ | ⟨c3, h⟩
          · obtain rfl := Option.some.inj h
            exact ee sch0 [2] [] (p.b 35 c3)
          · have p := p.b 35 c3
            rcases bifSome h with ⟨c4, h⟩ | ⟨c4, h⟩
            · obtain ⟨⟨g1, g2⟩, h⟩ := guardSome h
              have p := p.b 39 c4 |>.w 43 g1 |>.g g2
              rcases bifSome h with ⟨c5, h⟩ | ⟨c5, h⟩
              · obtain rfl := Option.some.inj h
                exact ee sch0 [2] [] (p.b 47 c5)
              · obtain ⟨g3, h⟩ := guardSome h
                obtain ⟨y1, hy1, h⟩ := bindSome h
                have p := p.b 47 c5 |>.g g3 |>.c (fb (containsI_ok hy1) [])
                rcases bifSome h with ⟨c6, h⟩ | ⟨c6, h⟩
                · obtain rfl := Option.some.inj h
                  exact ee sch0 [2] [] (p.b 57 c6)
                · obtain ⟨g4, h⟩ := guardSome h
                  exact gg sch0 [] (p.b 57 c6 |>.w 59 g4) (hself _ _ h m0 m1 hm0 hm1)
            · obtain ⟨g1, h⟩ := guardSome h
              obtain ⟨y1, hy1, h⟩ := bindSome h
              have p := p.b 39 c4 |>.g g1 |>.c (fb (containsI_ok hy1) [])
              rcases bifSome h with ⟨c5, h⟩ | ⟨c5, h⟩
              · obtain rfl := Option.some.inj h
                exact ee sch0 [2] [] (p.b 57 c5)
              · obtain ⟨g2, h⟩ := guardSome h
                exact gg sch0 [] (p.b 57 c5 |>.w 59 g2) (hself _ _ h m0 m1 hm0 hm1)
    · obtain ⟨g0, h⟩ := guardSome h
      exact gg sch0 [] (H0.b 20 c0 |>.w 60 g0) (hself _ _ h m0 hm0)
theorem gcheck_ok {n : Nat} {g_ : List (List Int)} {r : Int} (h : gcheck n g_ = some r) : ES Tryd.prog GG 32 [.sl 1 g_.length (rowE intsC g_)] [] (.i r) [] true := by
  refine ot Tryd.func32 fun B N => ?_
  have hself := gcheck_all B N g_ n
  unfold gcheck at h
  unfold gcheck_l0 at h
  rcases bifSome h with ⟨c0, h⟩ | ⟨c0, h⟩
  · obtain rfl := Option.some.inj h
    exact ee sch0 [2] [] (H0.b 9 c0)
  · exact gg sch0 [] (H0.b 9 c0) (en n (hself _ _ h n (Nat.le_refl _)))
inductive fewProblemPt where
  | l1 (x3 : Int)
def fewProblem_l1 (n : Nat) (self : fewProblemPt → Option Bool) (q : ProbD) (x3 : Int) : Option Bool :=
  bif (decide (x3 < (q.cons.length : Int))) then
   if 0 ≤ x3 ∧ x3 < (q.cons.length : Int) then
    bif (decide (((((q.cons.getD ((x3).toNat) default).cells).length : Nat) : Int) > 20)) then
     some false
    else
     bif (decide (((((q.cons.getD ((x3).toNat) default).runs).length : Nat) : Int) > 10)) then
      some false
     else
      if R64 (x3 + 1) then
       self (.l1 (x3 + 1))
      else none
   else none
  else
   some true
def fewProblem_l0 (n : Nat) (self : fewProblemPt → Option Bool) (q : ProbD) : Option Bool :=
  bif (decide (q.cells > 16)) then
   some false
  else
   bif (decide (q.symbols > 6)) then
    some false
   else
    bif (decide ((q.values.length : Int) > 8)) then
     some false
    else
     bif (decide ((q.nbrs.length : Int) > 20)) then
      some false
     else
      bif (decide ((q.cons.length : Int) > 120)) then
       some false
      else
       self (.l1 0)
def fewProblem_m (q : ProbD) : Nat → fewProblemPt → Option Bool
  | 0, _ => none
  | n + 1, .l1 x3 => fewProblem_l1 n (fewProblem_m q n) q x3
def fewProblem (n : Nat) (q : ProbD) : Option Bool := fewProblem_l0 n (fewProblem_m q n) q
/-- What the points stand for. -/
def fewProblem_at (n : Nat) (B : Nat) (N : Yard Tryd.prog GG 0) (q : ProbD) (r : Bool) : fewProblemPt → Prop
  | .l1 x3 => ∀ m0 : Nat, n ≤ m0 → TrK Tryd.prog GG Fence.wide (some B) 0 N (Fin Tryd.prog Tryd.f21 0 (.bool r) []) (toN m0 (atNC (bodyC Tryd.f21) 0 [])) ⟨frm 55 [(1, .ref 0 0), (3, .i x3)], [some (.cells (probC q))]⟩
theorem fewProblem_all (B : Nat) (N : Yard Tryd.prog GG 0) (q : ProbD) : ∀ (n : Nat) (pt : fewProblemPt) (r : Bool), fewProblem_m q n pt = some r → fewProblem_at n B N q r pt := by
  intro n; induction n with
  | zero => intro _ _ h; cases h
  | succ n hself =>
   intro pt r h
   cases pt
   case l1 x3 =>
    have h : fewProblem_l1 n (fewProblem_m q n) q x3 = some r := h
    intro m0 hm0
    refine rd hm0 fun m0 hm0 => ?_
    unfold fewProblem_l1 at h
    rcases bifSome h with ⟨c0, h⟩ | ⟨c0, h⟩
    · obtain ⟨g0, h⟩ := guardSome h
      have p := H0.b 34 c0 |>.g g0
      rcases bifSome h with ⟨c1, h⟩ | ⟨c1, h⟩
      · obtain rfl := Option.some.inj h
        exact ee sch0 [2] [] (p.b 44 c1)
      · have p := p.b 44 c1 |>.g g0
        rcases bifSome h with ⟨c2, h⟩ | ⟨c2, h⟩
        · obtain rfl := Option.some.inj h
          exact ee sch0 [2] [] (p.b 53 c2)
        · obtain ⟨g1, h⟩ := guardSome h
          exact gg sch0 [0] (p.b 53 c2 |>.w 36 g1) (hself _ _ h m0 hm0)
    · obtain rfl := Option.some.inj h
      exact ee sch0 [2] [] (H0.b 34 c0)
theorem fewProblem_ok {n : Nat} {q : ProbD} {r : Bool} (h : fewProblem n q = some r) : ES Tryd.prog GG 21 [.agg 5 (L1 (probC q))] [] (.bool r) [] true := by
  refine ot Tryd.func21 fun B N => ?_
  have hself := fewProblem_all B N q n
  unfold fewProblem at h
  unfold fewProblem_l0 at h
  rcases bifSome h with ⟨c0, h⟩ | ⟨c0, h⟩
  · obtain rfl := Option.some.inj h
    exact ee sch0 [2] [] (H0.b 6 c0)
  · have p := H0.b 6 c0
    rcases bifSome h with ⟨c1, h⟩ | ⟨c1, h⟩
    · obtain rfl := Option.some.inj h
      exact ee sch0 [2] [] (p.b 10 c1)
    · have p := p.b 10 c1
      rcases bifSome h with ⟨c2, h⟩ | ⟨c2, h⟩
      · obtain rfl := Option.some.inj h
        exact ee sch0 [2] [] (p.b 16 c2)
      · have p := p.b 16 c2
        rcases bifSome h with ⟨c3, h⟩ | ⟨c3, h⟩
        · obtain rfl := Option.some.inj h
          exact ee sch0 [2] [] (p.b 22 c3)
        · have p := p.b 22 c3
          rcases bifSome h with ⟨c4, h⟩ | ⟨c4, h⟩
          · obtain rfl := Option.some.inj h
            exact ee sch0 [2] [] (p.b 28 c4)
          · exact gg sch0 [0] (p.b 28 c4) (en n (hself _ _ h n (Nat.le_refl _)))
end Go.Proofs.YtekkngkphejfcaaDoor
namespace Go.Proofs.YtekkngkphejfcaaDoor
open Go.RowKit
set_option maxRecDepth 100000
set_option maxHeartbeats 40000000
def wiOut_l0 (n : Nat) (v lo hi : Int) : Option Bool :=
  bif (decide (v < lo)) then
   some true
  else
   some (decide (v > hi))
def wiOut (n : Nat) (v lo hi : Int) : Option Bool := wiOut_l0 n v lo hi
theorem wiOut_ok {n : Nat} {v lo hi : Int} {r : Bool} (h : wiOut n v lo hi = some r) : ES Tryd.prog GG 53 [.i v, .fp 1 (L1 [.i lo]), .fp 1 (L1 [.i hi])] [] (.bool r) [] true := by
  refine ot Tryd.func53 fun B N => ?_
  unfold wiOut at h
  unfold wiOut_l0 at h
  rcases bifSome h with ⟨c0, h⟩ | ⟨c0, h⟩
  · obtain rfl := Option.some.inj h
    exact ee sch0 [4] [] (H0.b 7 c0)
  · cases h
    exact ee sch0 [4] [] (H0.b 7 c0)
inductive indexOutPt where
  | l1 (x8 : Int)
def indexOut_l1 (n : Nat) (self : indexOutPt → Option Int) (l : List Int) (lo hi : Int) (x8 : Int) : Option Int :=
  bif (decide (x8 < (l.length : Int))) then
   if 0 ≤ x8 ∧ x8 < (l.length : Int) then
    (wiOut n (l.getD ((x8).toNat) 0) lo hi).bind fun y1 =>
     bif y1 then
      some x8
     else
      if R64 (x8 + 1) then
       self (.l1 (x8 + 1))
      else none
   else none
  else
   some (-1)
def indexOut_l0 (n : Nat) (self : indexOutPt → Option Int) (l : List Int) (lo hi : Int) : Option Int :=
  self (.l1 0)
def indexOut_m (l : List Int) (lo hi : Int) : Nat → indexOutPt → Option Int
  | 0, _ => none
  | n + 1, .l1 x8 => indexOut_l1 n (indexOut_m l lo hi n) l lo hi x8
def indexOut (n : Nat) (l : List Int) (lo hi : Int) : Option Int := indexOut_l0 n (indexOut_m l lo hi n) l lo hi
/-- What the points stand for. -/
def indexOut_at (n : Nat) (B : Nat) (N : Yard Tryd.prog GG 0) (l : List Int) (lo hi : Int) (r : Int) : indexOutPt → Prop
  | .l1 x8 => ∀ m0 : Nat, n ≤ m0 → TrK Tryd.prog GG Fence.wide (some B) 0 N (Fin Tryd.prog Tryd.f71 0 (.i r) []) (toN m0 (atNC (bodyC Tryd.f71) 0 [])) ⟨frm 19 [(0, .ints l), (1, .fn 53 2 (L1 [.fp 1 (L1 [.i lo]), .fp 1 (L1 [.i hi])])), (7, .i (l.length : Int)), (8, .i x8)], []⟩
theorem indexOut_all (B : Nat) (N : Yard Tryd.prog GG 0) (l : List Int) (lo hi : Int) : ∀ (n : Nat) (pt : indexOutPt) (r : Int), indexOut_m l lo hi n pt = some r → indexOut_at n B N l lo hi r pt := by
  intro n; induction n with
  | zero => intro _ _ h; cases h
  | succ n hself =>
   intro pt r h
   cases pt
   case l1 x8 =>
    have h : indexOut_l1 n (indexOut_m l lo hi n) l lo hi x8 = some r := h
    intro m0 hm0
    refine rd hm0 fun m0 hm0 => ?_
    unfold indexOut_l1 at h
    rcases bifSome h with ⟨c0, h⟩ | ⟨c0, h⟩
    · obtain ⟨g0, h⟩ := guardSome h
      obtain ⟨y1, hy1, h⟩ := bindSome h
      have p := H0.b 9 c0 |>.g g0 |>.c (fb (wiOut_ok hy1) [])
      rcases bifSome h with ⟨c1, h⟩ | ⟨c1, h⟩
      · obtain rfl := Option.some.inj h
        exact ee sch0 [4] [] (p.b 16 c1)
      · obtain ⟨g1, h⟩ := guardSome h
        exact gg sch0 [] (p.b 16 c1 |>.w 18 g1) (hself _ _ h m0 hm0)
    · cases h
      exact ee sch0 [4] [] (H0.b 9 c0)
theorem indexOut_ok {n : Nat} {l : List Int} {lo hi : Int} {r : Int} (h : indexOut n l lo hi = some r) : ES Tryd.prog GG 71 [.ints l, .fn 53 2 (L1 [.fp 1 (L1 [.i lo]), .fp 1 (L1 [.i hi])])] [] (.i r) [] true := by
  refine ot Tryd.func71 fun B N => ?_
  have hself := indexOut_all B N l lo hi n
  unfold indexOut at h
  unfold indexOut_l0 at h
  exact gg sch0 [] H0 (en n (hself _ _ h n (Nat.le_refl _)))
def containsOut_l0 (n : Nat) (l : List Int) (lo hi : Int) : Option Bool :=
  (indexOut n l lo hi).bind fun y1 =>
   some (decide (y1 ≥ 0))
def containsOut (n : Nat) (l : List Int) (lo hi : Int) : Option Bool := containsOut_l0 n l lo hi
theorem containsOut_ok {n : Nat} {l : List Int} {lo hi : Int} {r : Bool} (h : containsOut n l lo hi = some r) : ES Tryd.prog GG 52 [.ints l, .fn 53 2 (L1 [.fp 1 (L1 [.i lo]), .fp 1 (L1 [.i hi])])] [] (.bool r) [] true := by
  refine ot Tryd.func52 fun B N => ?_
  unfold containsOut at h
  unfold containsOut_l0 at h
  obtain ⟨y1, hy1, h⟩ := bindSome h
  cases h
  exact ee sch0 [4] [] (H0.c (fb (indexOut_ok hy1) []))
def pzwithin_l0 (n : Nat) (l_ : List Int) (lo hi : Int) : Option Bool :=
  (containsOut n l_ lo hi).bind fun y1 =>
   some (!y1)
def pzwithin (n : Nat) (l_ : List Int) (lo hi : Int) : Option Bool := pzwithin_l0 n l_ lo hi
theorem pzwithin_ok {n : Nat} {l_ : List Int} {lo hi : Int} {r : Bool} (h : pzwithin n l_ lo hi = some r) : ES Tryd.prog GG 31 [.ints l_, .i lo, .i hi] [] (.bool r) [] true := by
  refine ot Tryd.func31 fun B N => ?_
  unfold pzwithin at h
  unfold pzwithin_l0 at h
  obtain ⟨y1, hy1, h⟩ := bindSome h
  cases h
  exact ee sch0 [6] [] (H0.c (sb [.ints l_, .fn 53 2 (L1 [.ref 0 0, .ref 1 0])] (containsOut_ok hy1) [some (.cells [.i lo]), some (.cells [.i hi])] ⟨Snap.plain (by kernel_rfl), (Snap.fnL (l := [.ref 0 0, .ref 1 0]) (l0 := [.fp 1 (L1 [.i lo]), .fp 1 (L1 [.i hi])]) ⟨(Snap.refL (l := [.i lo]) (l0 := [.i lo]) rfl ⟨Snap.plain (by kernel_rfl), trivial⟩), (Snap.refL (l := [.i hi]) (l0 := [.i hi]) rfl ⟨Snap.plain (by kernel_rfl), trivial⟩), trivial⟩), trivial⟩))
theorem s_fineD_24 : SOk (regF Tryd.f35 24) [([0, 1, 2, 3, 5, 6, 7, 8], 4), ([], 9), ([10, 11, 12, 13, 14], 15), ([], 16), ([17, 18, 19, 20, 21, 22, 23, 24, 25, 26], 27)] [28, 29] [] := by unfold SOk; kernel_rfl
def sch_fineD : Sch := fun i => match i with
  | 24 => .ord [([0, 1, 2, 3, 5, 6, 7, 8], 4), ([], 9), ([10, 11, 12, 13, 14], 15), ([], 16), ([17, 18, 19, 20, 21, 22, 23, 24, 25, 26], 27)] [28, 29] []
  | _ => .no
def hp_fineD_0 (q : ProbD) (c_ : ConsD) : DH := [some (.cells (probC q)), some (.cells (consC c_)), some (.ints ([c_.set, c_.other] : List Int)), some (.ints ([c_.lo, c_.hi] : List Int))]
inductive fineDPt where
  | l1 (x11 : Int) (o2 : List Bool)
  | l2
def fineD_l1 (n : Nat) (self : fineDPt → Option Bool) (q : ProbD) (c_ : ConsD) (x11 : Int) (o2 : List Bool) : Option Bool :=
  bif (decide (x11 < (c_.cells.length : Int))) then
   if 0 ≤ x11 ∧ x11 < (c_.cells.length : Int) then
    bif (decide ((c_.cells.getD ((x11).toNat) 0) < 0)) then
     some false
    else
     bif (decide ((c_.cells.getD ((x11).toNat) 0) ≥ q.cells)) then
      some false
     else
      if (0 ≤ (c_.cells.getD ((x11).toNat) 0) ∧ (c_.cells.getD ((x11).toNat) 0) < ((256 : Nat) : Int)) ∧ 0 + ((c_.cells.getD ((x11).toNat) 0).toNat) < o2.length then
       bif (o2.getD (0 + ((c_.cells.getD ((x11).toNat) 0).toNat)) false) then
        some false
       else
        bif (decide (c_.kind ≥ 8)) then
         bif ((c_.cells.getD ((x11).toNat) 0) != x11) then
          some false
         else
          if R64 (x11 + 1) then
           self (.l1 (x11 + 1) (o2.set (0 + ((c_.cells.getD ((x11).toNat) 0).toNat)) true))
          else none
        else
         if R64 (x11 + 1) then
          self (.l1 (x11 + 1) (o2.set (0 + ((c_.cells.getD ((x11).toNat) 0).toNat)) true))
         else none
      else none
   else none
  else
   bif (c_.kind == 1) then
    self (.l2)
   else
    bif (c_.kind == 2) then
     self (.l2)
    else
     bif (c_.kind == 3) then
      self (.l2)
     else
      bif (c_.kind == 4) then
       self (.l2)
      else
       bif (c_.kind == 5) then
        self (.l2)
       else
        bif (c_.kind == 6) then
         bif ((c_.cells.length : Int) != 2) then
          some false
         else
          self (.l2)
        else
         bif (c_.kind == 7) then
          bif ((c_.cells.length : Int) != 2) then
           some false
          else
           self (.l2)
         else
          bif (c_.kind == 8) then
           bif ((c_.cells.length : Int) != q.cells) then
            some false
           else
            self (.l2)
          else
           bif (c_.kind == 9) then
            bif ((c_.cells.length : Int) != q.cells) then
             some false
            else
             self (.l2)
           else
            some false
def fineD_l2 (n : Nat) (self : fineDPt → Option Bool) (q : ProbD) (c_ : ConsD) : Option Bool :=
  if (0 ≤ q.symbols ∧ q.symbols ≤ (IntKind.i64.bits : Int)) ∧ R64 ((IntKind.i64.wrap (1 * 2 ^ (q.symbols).toNat)) - 1) then
   (pzwithin n ([c_.set, c_.other] : List Int) 0 ((IntKind.i64.wrap (1 * 2 ^ (q.symbols).toNat)) - 1)).bind fun y1 =>
    bif y1 then
     (pzwithin n ([c_.lo, c_.hi] : List Int) 0 65536).bind fun y2 =>
      bif y2 then
       bif (decide ((c_.runs.length : Int) ≤ 8)) then
        (pzwithin n c_.runs 1 256).bind fun y3 =>
         some y3
       else
        some false
      else
       some false
    else
     some false
  else none
def fineD_l0 (n : Nat) (self : fineDPt → Option Bool) (q : ProbD) (c_ : ConsD) : Option Bool :=
  self (.l1 0 (List.replicate 256 false))
def fineD_m (q : ProbD) (c_ : ConsD) : Nat → fineDPt → Option Bool
  | 0, _ => none
  | n + 1, .l1 x11 o2 => fineD_l1 n (fineD_m q c_ n) q c_ x11 o2
  | n + 1, .l2 => fineD_l2 n (fineD_m q c_ n) q c_
def fineD (n : Nat) (q : ProbD) (c_ : ConsD) : Option Bool := fineD_l0 n (fineD_m q c_ n) q c_
/-- What the points stand for. -/
def fineD_at (n : Nat) (B : Nat) (N : Yard Tryd.prog GG 0) (q : ProbD) (c_ : ConsD) (r : Bool) : fineDPt → Prop
  | .l1 x11 o2 => ∀ m0 : Nat, n ≤ m0 → TrK Tryd.prog GG Fence.wide (some B) 0 N (Fin Tryd.prog Tryd.f35 0 (.bool r) []) (toN m0 (atNC (bodyC Tryd.f35) 0 [])) ⟨frm 95 [(2, .ref 0 0), (3, .ref 1 0), (5, .mp 2 1 0 0), (9, .ints c_.cells), (10, .i (c_.cells.length : Int)), (11, .i x11)], [some (.cells (probC q)), some (.cells (consC c_)), some (.bools o2)]⟩
  | .l2 => TrK Tryd.prog GG Fence.wide (some B) 0 N (Fin Tryd.prog Tryd.f35 0 (.bool r) []) (atGC (bodyC Tryd.f35) 24 []) ⟨frm 95 [(2, .ref 0 0), (3, .ref 1 0)], [some (.cells (probC q)), some (.cells (consC c_))]⟩
theorem fineD_all (B : Nat) (N : Yard Tryd.prog GG 0) (q : ProbD) (c_ : ConsD) : ∀ (n : Nat) (pt : fineDPt) (r : Bool), fineD_m q c_ n pt = some r → fineD_at n B N q c_ r pt := by
  intro n; induction n with
  | zero => intro _ _ h; cases h
  | succ n hself =>
   intro pt r h
   cases pt
   case l1 x11 o2 =>
    have h : fineD_l1 n (fineD_m q c_ n) q c_ x11 o2 = some r := h
    intro m0 hm0
    refine rd hm0 fun m0 hm0 => ?_
    unfold fineD_l1 at h
    rcases bifSome h with ⟨c0, h⟩ | ⟨c0, h⟩
    · obtain ⟨g0, h⟩ := guardSome h
      have p := H0.b 12 c0 |>.g g0
      rcases bifSome h with ⟨c1, h⟩ | ⟨c1, h⟩
      · obtain rfl := Option.some.inj h
        exact ee (stopAt 24 sch_fineD) [4] [] (p.b 17 c1)
      · have p := p.b 17 c1
        rcases bifSome h with ⟨c2, h⟩ | ⟨c2, h⟩
        · obtain rfl := Option.some.inj h
          exact ee (stopAt 24 sch_fineD) [4] [] (p.b 22 c2)
        · obtain ⟨⟨g1, g2⟩, h⟩ := guardSome h
          have p := p.b 22 c2 |>.g g1 |>.g g2
          rcases bifSome h with ⟨c3, h⟩ | ⟨c3, h⟩
          · obtain rfl := Option.some.inj h
            exact ee (stopAt 24 sch_fineD) [4] [] (p.b 27 c3)
          · have p := p.b 27 c3
            rcases bifSome h with ⟨c4, h⟩ | ⟨c4, h⟩
            · have p := p.b 32 c4
              rcases bifSome h with ⟨c5, h⟩ | ⟨c5, h⟩
              · obtain rfl := Option.some.inj h
                exact ee (stopAt 24 sch_fineD) [4] [] (p.b 36 c5)
              · obtain ⟨g3, h⟩ := guardSome h
                exact gg (stopAt 24 sch_fineD) [0, 1, 2] (p.b 36 c5 |>.g g1 |>.g g2 |>.w 41 g3) (hself _ _ h m0 hm0)
            · obtain ⟨g3, h⟩ := guardSome h
              exact gg (stopAt 24 sch_fineD) [0, 1, 2] (p.b 32 c4 |>.g g1 |>.g g2 |>.w 41 g3) (hself _ _ h m0 hm0)
    · have p := H0.b 12 c0
      rcases bifSome h with ⟨c1, h⟩ | ⟨c1, h⟩
      · exact gg (stopAt 24 sch_fineD) [0, 1] (p.b 45 c1) (hself _ _ h)
      · have p := p.b 45 c1
        rcases bifSome h with ⟨c2, h⟩ | ⟨c2, h⟩
        · exact gg (stopAt 24 sch_fineD) [0, 1] (p.b 46 c2) (hself _ _ h)
        · have p := p.b 46 c2
          rcases bifSome h with ⟨c3, h⟩ | ⟨c3, h⟩
          · exact gg (stopAt 24 sch_fineD) [0, 1] (p.b 47 c3) (hself _ _ h)
          · have p := p.b 47 c3
            rcases bifSome h with ⟨c4, h⟩ | ⟨c4, h⟩
            · exact gg (stopAt 24 sch_fineD) [0, 1] (p.b 48 c4) (hself _ _ h)
            · have p := p.b 48 c4
              rcases bifSome h with ⟨c5, h⟩ | ⟨c5, h⟩
              · exact gg (stopAt 24 sch_fineD) [0, 1] (p.b 49 c5) (hself _ _ h)
              · have p := p.b 49 c5
                rcases bifSome h with ⟨c6, h⟩ | ⟨c6, h⟩
                · have p := p.b 51 c6
                  rcases bifSome h with ⟨c7, h⟩ | ⟨c7, h⟩
                  · obtain rfl := Option.some.inj h
                    exact ee (stopAt 24 sch_fineD) [4] [] (p.b 56 c7)
                  · exact gg (stopAt 24 sch_fineD) [0, 1] (p.b 56 c7) (hself _ _ h)
                · have p := p.b 51 c6
                  rcases bifSome h with ⟨c7, h⟩ | ⟨c7, h⟩
                  · have p := p.b 52 c7
                    rcases bifSome h with ⟨c8, h⟩ | ⟨c8, h⟩
                    · obtain rfl := Option.some.inj h
                      exact ee (stopAt 24 sch_fineD) [4] [] (p.b 56 c8)
                    · exact gg (stopAt 24 sch_fineD) [0, 1] (p.b 56 c8) (hself _ _ h)
                  · have p := p.b 52 c7
                    rcases bifSome h with ⟨c8, h⟩ | ⟨c8, h⟩
                    · have p := p.b 58 c8
                      rcases bifSome h with ⟨c9, h⟩ | ⟨c9, h⟩
                      · obtain rfl := Option.some.inj h
                        exact ee (stopAt 24 sch_fineD) [4] [] (p.b 65 c9)
                      · exact gg (stopAt 24 sch_fineD) [0, 1] (p.b 65 c9) (hself _ _ h)
                    · have p := p.b 58 c8
                      rcases bifSome h with ⟨c9, h⟩ | ⟨c9, h⟩
                      · have p := p.b 59 c9
                        rcases bifSome h with ⟨c10, h⟩ | ⟨c10, h⟩
                        · obtain rfl := Option.some.inj h
                          exact ee (stopAt 24 sch_fineD) [4] [] (p.b 65 c10)
                        · exact gg (stopAt 24 sch_fineD) [0, 1] (p.b 65 c10) (hself _ _ h)
                      · obtain rfl := Option.some.inj h
                        exact ee (stopAt 24 sch_fineD) [4] [] (p.b 59 c9)
   case l2 =>
    have h : fineD_l2 n (fineD_m q c_ n) q c_ = some r := h
    show TrK _ _ _ _ _ _ _ _ _
    unfold fineD_l2 at h
    obtain ⟨⟨g0, g1⟩, h⟩ := guardSome h
    obtain ⟨y1, hy1, h⟩ := bindSome h
    have p := H0.g s_fineD_24 |>.g g0 |>.w 74 g1 |>.c (sb [.msl 2 1 0 2, .i 0, .i ((IntKind.i64.wrap (1 * 2 ^ (q.symbols).toNat)) - 1)] (pzwithin_ok hy1) [some (.cells (probC q)), some (.cells (consC c_)), some (.ints ([c_.set, c_.other] : List Int))] ⟨Snap.ints rfl (Eq.refl 2), Snap.plain (by kernel_rfl), Snap.plain (by kernel_rfl), trivial⟩)
    rcases bifSome h with ⟨c0, h⟩ | ⟨c0, h⟩
    · obtain ⟨y2, hy2, h⟩ := bindSome h
      have p := p.b 75 c0 |>.c (sb [.msl 3 1 0 2, .i 0, .i 65536] (pzwithin_ok hy2) (hp_fineD_0 q c_) ⟨Snap.ints rfl (Eq.refl 2), Snap.plain (by kernel_rfl), Snap.plain (by kernel_rfl), trivial⟩)
      rcases bifSome h with ⟨c1, h⟩ | ⟨c1, h⟩
      · have p := p.b 82 c1
        rcases bifSome h with ⟨c2, h⟩ | ⟨c2, h⟩
        · obtain ⟨y3, hy3, h⟩ := bindSome h
          obtain rfl := Option.some.inj h
          exact ee sch_fineD [4] [] (p.b 88 c2 |>.c (fb (pzwithin_ok hy3) (hp_fineD_0 q c_)))
        · obtain rfl := Option.some.inj h
          exact ee sch_fineD [4] [] (p.b 88 c2)
      · obtain rfl := Option.some.inj h
        exact ee sch_fineD [4] [] (p.b 82 c1)
    · obtain rfl := Option.some.inj h
      exact ee sch_fineD [4] [] (p.b 75 c0)
theorem fineD_ok {n : Nat} {q : ProbD} {c_ : ConsD} {r : Bool} (h : fineD n q c_ = some r) : ES Tryd.prog GG 35 [.agg 5 (L1 (probC q)), .agg 9 (L1 (consC c_))] [] (.bool r) [] true := by
  refine ot Tryd.func35 fun B N => ?_
  have hself := fineD_all B N q c_ n
  unfold fineD at h
  unfold fineD_l0 at h
  exact gg (stopAt 24 sch_fineD) [0, 1, 2] H0 (en n (hself _ _ h n (Nat.le_refl _)))
def unfine_l0 (n : Nat) (c : ConsD) (q : ProbD) : Option Bool :=
  (fineD n q c).bind fun y1 =>
   some (!y1)
def unfine (n : Nat) (c : ConsD) (q : ProbD) : Option Bool := unfine_l0 n c q
theorem unfine_ok {n : Nat} {c : ConsD} {q : ProbD} {r : Bool} (h : unfine n c q = some r) : ES Tryd.prog GG 34 [.agg 9 (L1 (consC c)), .fp 5 (L1 (probC q))] [] (.bool r) [] true := by
  refine ot Tryd.func34 fun B N => ?_
  unfold unfine at h
  unfold unfine_l0 at h
  obtain ⟨y1, hy1, h⟩ := bindSome h
  cases h
  exact ee sch0 [3] [] (H0.c (fb (fineD_ok hy1) [some (.cells (consC c))]))
inductive indexUnfinePt where
  | l1 (x8 : Int)
def indexUnfine_l1 (n : Nat) (self : indexUnfinePt → Option Int) (l : List ConsD) (q : ProbD) (x8 : Int) : Option Int :=
  bif (decide (x8 < (l.length : Int))) then
   if 0 ≤ x8 ∧ x8 < (l.length : Int) then
    (unfine n (l.getD ((x8).toNat) default) q).bind fun y1 =>
     bif y1 then
      some x8
     else
      if R64 (x8 + 1) then
       self (.l1 (x8 + 1))
      else none
   else none
  else
   some (-1)
def indexUnfine_l0 (n : Nat) (self : indexUnfinePt → Option Int) (l : List ConsD) (q : ProbD) : Option Int :=
  self (.l1 0)
def indexUnfine_m (l : List ConsD) (q : ProbD) : Nat → indexUnfinePt → Option Int
  | 0, _ => none
  | n + 1, .l1 x8 => indexUnfine_l1 n (indexUnfine_m l q n) l q x8
def indexUnfine (n : Nat) (l : List ConsD) (q : ProbD) : Option Int := indexUnfine_l0 n (indexUnfine_m l q n) l q
/-- What the points stand for. -/
def indexUnfine_at (n : Nat) (B : Nat) (N : Yard Tryd.prog GG 0) (l : List ConsD) (q : ProbD) (r : Int) : indexUnfinePt → Prop
  | .l1 x8 => ∀ m0 : Nat, n ≤ m0 → TrK Tryd.prog GG Fence.wide (some B) 0 N (Fin Tryd.prog Tryd.f55 0 (.i r) []) (toN m0 (atNC (bodyC Tryd.f55) 0 [])) ⟨frm 19 [(0, .sl 9 l.length (rowE consC l)), (1, .fn 34 1 (L1 [.fp 5 (L1 (probC q))])), (7, .i (l.length : Int)), (8, .i x8)], []⟩
theorem indexUnfine_all (B : Nat) (N : Yard Tryd.prog GG 0) (l : List ConsD) (q : ProbD) : ∀ (n : Nat) (pt : indexUnfinePt) (r : Int), indexUnfine_m l q n pt = some r → indexUnfine_at n B N l q r pt := by
  intro n; induction n with
  | zero => intro _ _ h; cases h
  | succ n hself =>
   intro pt r h
   cases pt
   case l1 x8 =>
    have h : indexUnfine_l1 n (indexUnfine_m l q n) l q x8 = some r := h
    intro m0 hm0
    refine rd hm0 fun m0 hm0 => ?_
    unfold indexUnfine_l1 at h
    rcases bifSome h with ⟨c0, h⟩ | ⟨c0, h⟩
    · obtain ⟨g0, h⟩ := guardSome h
      obtain ⟨y1, hy1, h⟩ := bindSome h
      have p := H0.b 9 c0 |>.g g0 |>.c (fb (unfine_ok hy1) [])
      rcases bifSome h with ⟨c1, h⟩ | ⟨c1, h⟩
      · obtain rfl := Option.some.inj h
        exact ee sch0 [4] [] (p.b 16 c1)
      · obtain ⟨g1, h⟩ := guardSome h
        exact gg sch0 [] (p.b 16 c1 |>.w 18 g1) (hself _ _ h m0 hm0)
    · cases h
      exact ee sch0 [4] [] (H0.b 9 c0)
theorem indexUnfine_ok {n : Nat} {l : List ConsD} {q : ProbD} {r : Int} (h : indexUnfine n l q = some r) : ES Tryd.prog GG 55 [.sl 9 l.length (rowE consC l), .fn 34 1 (L1 [.fp 5 (L1 (probC q))])] [] (.i r) [] true := by
  refine ot Tryd.func55 fun B N => ?_
  have hself := indexUnfine_all B N l q n
  unfold indexUnfine at h
  unfold indexUnfine_l0 at h
  exact gg sch0 [] H0 (en n (hself _ _ h n (Nat.le_refl _)))
def containsUnfine_l0 (n : Nat) (l : List ConsD) (q : ProbD) : Option Bool :=
  (indexUnfine n l q).bind fun y1 =>
   some (decide (y1 ≥ 0))
def containsUnfine (n : Nat) (l : List ConsD) (q : ProbD) : Option Bool := containsUnfine_l0 n l q
theorem containsUnfine_ok {n : Nat} {l : List ConsD} {q : ProbD} {r : Bool} (h : containsUnfine n l q = some r) : ES Tryd.prog GG 33 [.sl 9 l.length (rowE consC l), .fn 34 1 (L1 [.fp 5 (L1 (probC q))])] [] (.bool r) [] true := by
  refine ot Tryd.func33 fun B N => ?_
  unfold containsUnfine at h
  unfold containsUnfine_l0 at h
  obtain ⟨y1, hy1, h⟩ := bindSome h
  cases h
  exact ee sch0 [4] [] (H0.c (fb (indexUnfine_ok hy1) []))
def valid_l0 (n : Nat) (q : ProbD) : Option Int :=
  bif (decide (q.cells < 1)) then
   some 191
  else
   bif (decide (q.cells > 256)) then
    some 191
   else
    bif (decide (q.symbols < 1)) then
     some 191
    else
     bif (decide (q.symbols > 16)) then
      some 191
     else
      bif ((q.values.length : Int) != q.symbols) then
       some 191
      else
       (pzwithin n q.values 0 99).bind fun y1 =>
        bif (!y1) then
         some 191
        else
         bif ((q.nbrs.length : Int) != q.cells) then
          some 191
         else
          (gcheck n q.nbrs).bind fun y2 =>
           bif (y2 != 0) then
            some 191
           else
            bif (decide ((q.cons.length : Int) > 4096)) then
             some 191
            else
             (containsUnfine n q.cons q).bind fun y3 =>
              bif y3 then
               some 191
              else
               some 0
def valid (n : Nat) (q : ProbD) : Option Int := valid_l0 n q
theorem valid_ok {n : Nat} {q : ProbD} {r : Int} (h : valid n q = some r) : ES Tryd.prog GG 22 [.agg 5 (L1 (probC q))] [] (.i r) [] true := by
  refine ot Tryd.func22 fun B N => ?_
  unfold valid at h
  unfold valid_l0 at h
  rcases bifSome h with ⟨c0, h⟩ | ⟨c0, h⟩
  · obtain rfl := Option.some.inj h
    exact ee sch0 [2] [] (H0.b 5 c0)
  · have p := H0.b 5 c0
    rcases bifSome h with ⟨c1, h⟩ | ⟨c1, h⟩
    · obtain rfl := Option.some.inj h
      exact ee sch0 [2] [] (p.b 9 c1)
    · have p := p.b 9 c1
      rcases bifSome h with ⟨c2, h⟩ | ⟨c2, h⟩
      · obtain rfl := Option.some.inj h
        exact ee sch0 [2] [] (p.b 14 c2)
      · have p := p.b 14 c2
        rcases bifSome h with ⟨c3, h⟩ | ⟨c3, h⟩
        · obtain rfl := Option.some.inj h
          exact ee sch0 [2] [] (p.b 19 c3)
        · have p := p.b 19 c3
          rcases bifSome h with ⟨c4, h⟩ | ⟨c4, h⟩
          · obtain rfl := Option.some.inj h
            exact ee sch0 [2] [] (p.b 27 c4)
          · obtain ⟨y1, hy1, h⟩ := bindSome h
            have p := p.b 27 c4 |>.c (fb (pzwithin_ok hy1) [some (.cells (probC q))])
            rcases bifSome h with ⟨c5, h⟩ | ⟨c5, h⟩
            · obtain rfl := Option.some.inj h
              exact ee sch0 [2] [] (p.b 33 c5)
            · have p := p.b 33 c5
              rcases bifSome h with ⟨c6, h⟩ | ⟨c6, h⟩
              · obtain rfl := Option.some.inj h
                exact ee sch0 [2] [] (p.b 40 c6)
              · obtain ⟨y2, hy2, h⟩ := bindSome h
                have p := p.b 40 c6 |>.c (fb (gcheck_ok hy2) [some (.cells (probC q))])
                rcases bifSome h with ⟨c7, h⟩ | ⟨c7, h⟩
                · obtain rfl := Option.some.inj h
                  exact ee sch0 [2] [] (p.b 45 c7)
                · have p := p.b 45 c7
                  rcases bifSome h with ⟨c8, h⟩ | ⟨c8, h⟩
                  · obtain rfl := Option.some.inj h
                    exact ee sch0 [2] [] (p.b 51 c8)
                  · obtain ⟨y3, hy3, h⟩ := bindSome h
                    have p := p.b 51 c8 |>.c (sb [.sl 9 q.cons.length (rowE consC q.cons), .fn 34 1 (L1 [.ref 0 0])] (containsUnfine_ok hy3) [some (.cells (probC q))] ⟨Snap.plain (by kernel_rfl), (Snap.fnL (l := [.ref 0 0]) (l0 := [.fp 5 (L1 (probC q))]) ⟨(Snap.refL (l := (probC q)) (l0 := (probC q)) rfl ⟨Snap.plain (by kernel_rfl), Snap.plain (by kernel_rfl), Snap.plain (by kernel_rfl), Snap.plain (by kernel_rfl), Snap.plain (by kernel_rfl), trivial⟩), trivial⟩), trivial⟩)
                    rcases bifSome h with ⟨c9, h⟩ | ⟨c9, h⟩
                    · obtain rfl := Option.some.inj h
                      exact ee sch0 [2] [] (p.b 56 c9)
                    · obtain rfl := Option.some.inj h
                      exact ee sch0 [2] [] (p.b 56 c9)
def levelP_l0 (n : Nat) (q : ProbD) (i : Int) : Option (Int × Int) :=
  (valid n q).bind fun y1 =>
   bif (y1 != 0) then
    some (0, y1)
   else
    bif (decide (i < 0)) then
     some (0, 260)
    else
     bif (decide (i ≥ (q.cons.length : Int))) then
      some (0, 260)
     else
      if (0 ≤ i ∧ i < (q.cons.length : Int)) ∧ ((0 : Int) ≤ ((q.cons.getD ((i).toNat) default).kind) ∧ ((q.cons.getD ((i).toNat) default).kind) < ((10 : Nat) : Int)) then
       some (([0, 1, 1, 2, 2, 3, 1, 1, 4, 4] : List Int).getD ((q.cons.getD ((i).toNat) default).kind).toNat 0, 0)
      else none
def levelP (n : Nat) (q : ProbD) (i : Int) : Option (Int × Int) := levelP_l0 n q i
theorem levelP_ok {n : Nat} {q : ProbD} {i : Int} {r : Int × Int} (h : levelP n q i = some r) : ES Tryd.prog GG 9 [.agg 5 (L1 (probC q)), .i i] [] (.tup 2 (L1 [.i r.1, .i r.2])) [] true := by
  refine ot Tryd.func9 fun B N => ?_
  unfold levelP at h
  unfold levelP_l0 at h
  obtain ⟨y1, hy1, h⟩ := bindSome h
  have p := H0.c (fb (valid_ok hy1) [some (.cells (probC q))])
  rcases bifSome h with ⟨c0, h⟩ | ⟨c0, h⟩
  · cases h
    exact ee sch0 [4, 5] [] (p.b 10 c0)
  · have p := p.b 10 c0
    rcases bifSome h with ⟨c1, h⟩ | ⟨c1, h⟩
    · cases h
      exact ee sch0 [4, 5] [] (p.b 13 c1)
    · have p := p.b 13 c1
      rcases bifSome h with ⟨c2, h⟩ | ⟨c2, h⟩
      · cases h
        exact ee sch0 [4, 5] [] (p.b 19 c2)
      · obtain ⟨⟨g0, g1⟩, h⟩ := guardSome h
        cases h
        exact ee sch0 [4, 5] [] (p.b 19 c2 |>.g g0 |>.g g1 |>.o 28 (DLe.ixI [0, 1, 1, 2, 2, 3, 1, 1, 4, 4] rfl g1))
inductive rfinePt where
  | l1 (x7 : Int)
def rfine_l1 (n : Nat) (self : rfinePt → Option Bool) (c_ : ConsD) (cells symbols : Int) (x7 : Int) : Option Bool :=
  bif (decide (x7 < (c_.cells.length : Int))) then
   bif (c_.kind == 8) then
    if 0 ≤ x7 ∧ x7 < (c_.cells.length : Int) then
     bif ((c_.cells.getD ((x7).toNat) 0) != x7) then
      some false
     else
      if R64 (x7 + 1) then
       self (.l1 (x7 + 1))
      else none
    else none
   else
    bif (c_.kind == 9) then
     if 0 ≤ x7 ∧ x7 < (c_.cells.length : Int) then
      bif ((c_.cells.getD ((x7).toNat) 0) != x7) then
       some false
      else
       if R64 (x7 + 1) then
        self (.l1 (x7 + 1))
       else none
     else none
    else
     if R64 (x7 + 1) then
      self (.l1 (x7 + 1))
     else none
  else
   if (0 ≤ symbols ∧ symbols ≤ (IntKind.i64.bits : Int)) ∧ R64 ((IntKind.i64.wrap (1 * 2 ^ (symbols).toNat)) - 1) then
    (between n ([c_.set, c_.other] : List Int) 0 ((IntKind.i64.wrap (1 * 2 ^ (symbols).toNat)) - 1)).bind fun y1 =>
     bif y1 then
      (between n ([c_.lo, c_.hi] : List Int) 0 65536).bind fun y2 =>
       bif y2 then
        bif (decide ((c_.runs.length : Int) ≤ 8)) then
         (between n c_.runs 1 256).bind fun y3 =>
          some y3
        else
         some false
       else
        some false
     else
      some false
   else none
def rfine_l0 (n : Nat) (self : rfinePt → Option Bool) (c_ : ConsD) (cells symbols : Int) : Option Bool :=
  bif (decide (c_.kind < 1)) then
   some false
  else
   bif (decide (c_.kind > 9)) then
    some false
   else
    bif (decide ((c_.cells.length : Int) > cells)) then
     some false
    else
     if R64 (cells - 1) then
      (between n c_.cells 0 (cells - 1)).bind fun y1 =>
       bif (!y1) then
        some false
       else
        (different n c_.cells).bind fun y2 =>
         bif (!y2) then
          some false
         else
          bif (c_.kind == 6) then
           bif ((c_.cells.length : Int) != 2) then
            some false
           else
            bif (c_.kind == 8) then
             bif ((c_.cells.length : Int) != cells) then
              some false
             else
              self (.l1 0)
            else
             bif (c_.kind == 9) then
              bif ((c_.cells.length : Int) != cells) then
               some false
              else
               self (.l1 0)
             else
              self (.l1 0)
          else
           bif (c_.kind == 7) then
            bif ((c_.cells.length : Int) != 2) then
             some false
            else
             bif (c_.kind == 8) then
              bif ((c_.cells.length : Int) != cells) then
               some false
              else
               self (.l1 0)
             else
              bif (c_.kind == 9) then
               bif ((c_.cells.length : Int) != cells) then
                some false
               else
                self (.l1 0)
              else
               self (.l1 0)
           else
            bif (c_.kind == 8) then
             bif ((c_.cells.length : Int) != cells) then
              some false
             else
              self (.l1 0)
            else
             bif (c_.kind == 9) then
              bif ((c_.cells.length : Int) != cells) then
               some false
              else
               self (.l1 0)
             else
              self (.l1 0)
     else none
def rfine_m (c_ : ConsD) (cells symbols : Int) : Nat → rfinePt → Option Bool
  | 0, _ => none
  | n + 1, .l1 x7 => rfine_l1 n (rfine_m c_ cells symbols n) c_ cells symbols x7
def rfine (n : Nat) (c_ : ConsD) (cells symbols : Int) : Option Bool := rfine_l0 n (rfine_m c_ cells symbols n) c_ cells symbols
/-- What the points stand for. -/
def rfine_at (n : Nat) (B : Nat) (N : Yard Tryd.prog GG 0) (c_ : ConsD) (cells symbols : Int) (r : Bool) : rfinePt → Prop
  | .l1 x7 => ∀ m0 : Nat, n ≤ m0 → TrK Tryd.prog GG Fence.wide (some B) 0 N (Fin Tryd.prog Tryd.f38 0 (.bool r) []) (toN m0 (atNC (bodyC Tryd.f38) 0 [])) ⟨frm 120 [(2, .i symbols), (3, .ref 0 0), (7, .i x7)], [some (.cells (consC c_))]⟩
theorem rfine_all (B : Nat) (N : Yard Tryd.prog GG 0) (c_ : ConsD) (cells symbols : Int) : ∀ (n : Nat) (pt : rfinePt) (r : Bool), rfine_m c_ cells symbols n pt = some r → rfine_at n B N c_ cells symbols r pt := by
  intro n; induction n with
  | zero => intro _ _ h; cases h
  | succ n hself =>
   intro pt r h
   cases pt
   case l1 x7 =>
    have h : rfine_l1 n (rfine_m c_ cells symbols n) c_ cells symbols x7 = some r := h
    intro m0 hm0
    refine rd hm0 fun m0 hm0 => ?_
    unfold rfine_l1 at h
    rcases bifSome h with ⟨c0, h⟩ | ⟨c0, h⟩
    · have p := H0.b 71 c0
      rcases bifSome h with ⟨c1, h⟩ | ⟨c1, h⟩
      · obtain ⟨g0, h⟩ := guardSome h
        have p := p.b 76 c1 |>.g g0
        rcases bifSome h with ⟨c2, h⟩ | ⟨c2, h⟩
        · obtain rfl := Option.some.inj h
          exact ee sch0 [6] [] (p.b 89 c2)
        · obtain ⟨g1, h⟩ := guardSome h
          exact gg sch0 [0] (p.b 89 c2 |>.w 73 g1) (hself _ _ h m0 hm0)
      · have p := p.b 76 c1
        rcases bifSome h with ⟨c2, h⟩ | ⟨c2, h⟩
        · obtain ⟨g0, h⟩ := guardSome h
          have p := p.b 80 c2 |>.g g0
          rcases bifSome h with ⟨c3, h⟩ | ⟨c3, h⟩
          · obtain rfl := Option.some.inj h
            exact ee sch0 [6] [] (p.b 89 c3)
          · obtain ⟨g1, h⟩ := guardSome h
            exact gg sch0 [0] (p.b 89 c3 |>.w 73 g1) (hself _ _ h m0 hm0)
        · obtain ⟨g0, h⟩ := guardSome h
          exact gg sch0 [0] (p.b 80 c2 |>.w 73 g0) (hself _ _ h m0 hm0)
    · obtain ⟨⟨g0, g1⟩, h⟩ := guardSome h
      obtain ⟨y1, hy1, h⟩ := bindSome h
      have p := H0.b 71 c0 |>.g g0 |>.w 93 g1 |>.c (sb [.msl 1 1 0 2, .i 0, .i ((IntKind.i64.wrap (1 * 2 ^ (symbols).toNat)) - 1)] (between_ok hy1) [some (.cells (consC c_)), some (.ints ([c_.set, c_.other] : List Int))] ⟨Snap.ints rfl (Eq.refl 2), Snap.plain (by kernel_rfl), Snap.plain (by kernel_rfl), trivial⟩)
      rcases bifSome h with ⟨c1, h⟩ | ⟨c1, h⟩
      · obtain ⟨y2, hy2, h⟩ := bindSome h
        have p := p.b 100 c1 |>.c (sb [.msl 2 1 0 2, .i 0, .i 65536] (between_ok hy2) [some (.cells (consC c_)), some (.ints ([c_.set, c_.other] : List Int)), some (.ints ([c_.lo, c_.hi] : List Int))] ⟨Snap.ints rfl (Eq.refl 2), Snap.plain (by kernel_rfl), Snap.plain (by kernel_rfl), trivial⟩)
        rcases bifSome h with ⟨c2, h⟩ | ⟨c2, h⟩
        · have p := p.b 107 c2
          rcases bifSome h with ⟨c3, h⟩ | ⟨c3, h⟩
          · obtain ⟨y3, hy3, h⟩ := bindSome h
            obtain rfl := Option.some.inj h
            exact ee sch0 [6] [] (p.b 113 c3 |>.c (fb (between_ok hy3) [some (.cells (consC c_)), some (.ints ([c_.set, c_.other] : List Int)), some (.ints ([c_.lo, c_.hi] : List Int))]))
          · obtain rfl := Option.some.inj h
            exact ee sch0 [6] [] (p.b 113 c3)
        · obtain rfl := Option.some.inj h
          exact ee sch0 [6] [] (p.b 107 c2)
      · obtain rfl := Option.some.inj h
        exact ee sch0 [6] [] (p.b 100 c1)
theorem rfine_ok {n : Nat} {c_ : ConsD} {cells symbols : Int} {r : Bool} (h : rfine n c_ cells symbols = some r) : ES Tryd.prog GG 38 [.agg 9 (L1 (consC c_)), .i cells, .i symbols] [] (.bool r) [] true := by
  refine ot Tryd.func38 fun B N => ?_
  have hself := rfine_all B N c_ cells symbols n
  unfold rfine at h
  unfold rfine_l0 at h
  rcases bifSome h with ⟨c0, h⟩ | ⟨c0, h⟩
  · obtain rfl := Option.some.inj h
    exact ee sch0 [6] [] (H0.b 11 c0)
  · have p := H0.b 11 c0
    rcases bifSome h with ⟨c1, h⟩ | ⟨c1, h⟩
    · obtain rfl := Option.some.inj h
      exact ee sch0 [6] [] (p.b 15 c1)
    · have p := p.b 15 c1
      rcases bifSome h with ⟨c2, h⟩ | ⟨c2, h⟩
      · obtain rfl := Option.some.inj h
        exact ee sch0 [6] [] (p.b 22 c2)
      · obtain ⟨g0, h⟩ := guardSome h
        obtain ⟨y1, hy1, h⟩ := bindSome h
        have p := p.b 22 c2 |>.w 28 g0 |>.c (fb (between_ok hy1) [some (.cells (consC c_))])
        rcases bifSome h with ⟨c3, h⟩ | ⟨c3, h⟩
        · obtain rfl := Option.some.inj h
          exact ee sch0 [6] [] (p.b 30 c3)
        · obtain ⟨y2, hy2, h⟩ := bindSome h
          have p := p.b 30 c3 |>.c (fb (different_ok hy2) [some (.cells (consC c_))])
          rcases bifSome h with ⟨c4, h⟩ | ⟨c4, h⟩
          · obtain rfl := Option.some.inj h
            exact ee sch0 [6] [] (p.b 36 c4)
          · have p := p.b 36 c4
            rcases bifSome h with ⟨c5, h⟩ | ⟨c5, h⟩
            · have p := p.b 40 c5
              rcases bifSome h with ⟨c6, h⟩ | ⟨c6, h⟩
              · obtain rfl := Option.some.inj h
                exact ee sch0 [6] [] (p.b 50 c6)
              · have p := p.b 50 c6
                rcases bifSome h with ⟨c7, h⟩ | ⟨c7, h⟩
                · have p := p.b 54 c7
                  rcases bifSome h with ⟨c8, h⟩ | ⟨c8, h⟩
                  · obtain rfl := Option.some.inj h
                    exact ee sch0 [6] [] (p.b 65 c8)
                  · exact gg sch0 [0] (p.b 65 c8) (en n (hself _ _ h n (Nat.le_refl _)))
                · have p := p.b 54 c7
                  rcases bifSome h with ⟨c8, h⟩ | ⟨c8, h⟩
                  · have p := p.b 58 c8
                    rcases bifSome h with ⟨c9, h⟩ | ⟨c9, h⟩
                    · obtain rfl := Option.some.inj h
                      exact ee sch0 [6] [] (p.b 65 c9)
                    · exact gg sch0 [0] (p.b 65 c9) (en n (hself _ _ h n (Nat.le_refl _)))
                  · exact gg sch0 [0] (p.b 58 c8) (en n (hself _ _ h n (Nat.le_refl _)))
            · have p := p.b 40 c5
              rcases bifSome h with ⟨c6, h⟩ | ⟨c6, h⟩
              · have p := p.b 44 c6
                rcases bifSome h with ⟨c7, h⟩ | ⟨c7, h⟩
                · obtain rfl := Option.some.inj h
                  exact ee sch0 [6] [] (p.b 50 c7)
                · have p := p.b 50 c7
                  rcases bifSome h with ⟨c8, h⟩ | ⟨c8, h⟩
                  · have p := p.b 54 c8
                    rcases bifSome h with ⟨c9, h⟩ | ⟨c9, h⟩
                    · obtain rfl := Option.some.inj h
                      exact ee sch0 [6] [] (p.b 65 c9)
                    · exact gg sch0 [0] (p.b 65 c9) (en n (hself _ _ h n (Nat.le_refl _)))
                  · have p := p.b 54 c8
                    rcases bifSome h with ⟨c9, h⟩ | ⟨c9, h⟩
                    · have p := p.b 58 c9
                      rcases bifSome h with ⟨c10, h⟩ | ⟨c10, h⟩
                      · obtain rfl := Option.some.inj h
                        exact ee sch0 [6] [] (p.b 65 c10)
                      · exact gg sch0 [0] (p.b 65 c10) (en n (hself _ _ h n (Nat.le_refl _)))
                    · exact gg sch0 [0] (p.b 58 c9) (en n (hself _ _ h n (Nat.le_refl _)))
              · have p := p.b 44 c6
                rcases bifSome h with ⟨c7, h⟩ | ⟨c7, h⟩
                · have p := p.b 54 c7
                  rcases bifSome h with ⟨c8, h⟩ | ⟨c8, h⟩
                  · obtain rfl := Option.some.inj h
                    exact ee sch0 [6] [] (p.b 65 c8)
                  · exact gg sch0 [0] (p.b 65 c8) (en n (hself _ _ h n (Nat.le_refl _)))
                · have p := p.b 54 c7
                  rcases bifSome h with ⟨c8, h⟩ | ⟨c8, h⟩
                  · have p := p.b 58 c8
                    rcases bifSome h with ⟨c9, h⟩ | ⟨c9, h⟩
                    · obtain rfl := Option.some.inj h
                      exact ee sch0 [6] [] (p.b 65 c9)
                    · exact gg sch0 [0] (p.b 65 c9) (en n (hself _ _ h n (Nat.le_refl _)))
                  · exact gg sch0 [0] (p.b 58 c8) (en n (hself _ _ h n (Nat.le_refl _)))
theorem s_rvalid_8 : SOk (regF Tryd.f23 8) [([0, 1, 2, 3, 4, 5, 6, 7, 8], 9)] [10] [] := by unfold SOk; kernel_rfl
def sch_rvalid : Sch := fun i => match i with
  | 8 => .ord [([0, 1, 2, 3, 4, 5, 6, 7, 8], 9)] [10] []
  | _ => .no
inductive rvalidPt where
  | l1 (x3 : Int)
def rvalid_l1 (n : Nat) (self : rvalidPt → Option Int) (q : ProbD) (x3 : Int) : Option Int :=
  bif (decide (x3 < (q.cons.length : Int))) then
   if 0 ≤ x3 ∧ x3 < (q.cons.length : Int) then
    (rfine n (q.cons.getD ((x3).toNat) default) q.cells q.symbols).bind fun y1 =>
     bif (!y1) then
      some 191
     else
      if R64 (x3 + 1) then
       self (.l1 (x3 + 1))
      else none
   else none
  else
   some 0
def rvalid_l0 (n : Nat) (self : rvalidPt → Option Int) (q : ProbD) : Option Int :=
  bif (decide (q.cells < 1)) then
   some 191
  else
   bif (decide (q.cells > 256)) then
    some 191
   else
    bif (decide (q.symbols < 1)) then
     some 191
    else
     bif (decide (q.symbols > 16)) then
      some 191
     else
      bif ((q.values.length : Int) != q.symbols) then
       some 191
      else
       (between n q.values 0 99).bind fun y1 =>
        bif (!y1) then
         some 191
        else
         bif ((q.nbrs.length : Int) != q.cells) then
          some 191
         else
          (rcheck n q.nbrs).bind fun y2 =>
           bif (y2 != 0) then
            some 191
           else
            bif (decide ((q.cons.length : Int) > 4096)) then
             some 191
            else
             self (.l1 0)
def rvalid_m (q : ProbD) : Nat → rvalidPt → Option Int
  | 0, _ => none
  | n + 1, .l1 x3 => rvalid_l1 n (rvalid_m q n) q x3
def rvalid (n : Nat) (q : ProbD) : Option Int := rvalid_l0 n (rvalid_m q n) q
/-- What the points stand for. -/
def rvalid_at (n : Nat) (B : Nat) (N : Yard Tryd.prog GG 0) (q : ProbD) (r : Int) : rvalidPt → Prop
  | .l1 x3 => ∀ m0 : Nat, n ≤ m0 → TrK Tryd.prog GG Fence.wide (some B) 0 N (Fin Tryd.prog Tryd.f23 0 (.i r) []) (toN m0 (atNC (bodyC Tryd.f23) 0 [])) ⟨frm 72 [(1, .ref 0 0), (3, .i x3)], [some (.cells (probC q))]⟩
theorem rvalid_all (B : Nat) (N : Yard Tryd.prog GG 0) (q : ProbD) : ∀ (n : Nat) (pt : rvalidPt) (r : Int), rvalid_m q n pt = some r → rvalid_at n B N q r pt := by
  intro n; induction n with
  | zero => intro _ _ h; cases h
  | succ n hself =>
   intro pt r h
   cases pt
   case l1 x3 =>
    have h : rvalid_l1 n (rvalid_m q n) q x3 = some r := h
    intro m0 hm0
    refine rd hm0 fun m0 hm0 => ?_
    unfold rvalid_l1 at h
    rcases bifSome h with ⟨c0, h⟩ | ⟨c0, h⟩
    · obtain ⟨g0, h⟩ := guardSome h
      obtain ⟨y1, hy1, h⟩ := bindSome h
      have p := H0.b 58 c0 |>.g s_rvalid_8 |>.g g0 |>.c (fb (rfine_ok hy1) [some (.cells (probC q))])
      rcases bifSome h with ⟨c1, h⟩ | ⟨c1, h⟩
      · obtain rfl := Option.some.inj h
        exact ee sch_rvalid [2] [] (p.b 71 c1)
      · obtain ⟨g1, h⟩ := guardSome h
        exact gg sch_rvalid [0] (p.b 71 c1 |>.w 60 g1) (hself _ _ h m0 hm0)
    · obtain rfl := Option.some.inj h
      exact ee sch_rvalid [2] [] (H0.b 58 c0)
theorem rvalid_ok {n : Nat} {q : ProbD} {r : Int} (h : rvalid n q = some r) : ES Tryd.prog GG 23 [.agg 5 (L1 (probC q))] [] (.i r) [] true := by
  refine ot Tryd.func23 fun B N => ?_
  have hself := rvalid_all B N q n
  unfold rvalid at h
  unfold rvalid_l0 at h
  rcases bifSome h with ⟨c0, h⟩ | ⟨c0, h⟩
  · obtain rfl := Option.some.inj h
    exact ee sch_rvalid [2] [] (H0.b 6 c0)
  · have p := H0.b 6 c0
    rcases bifSome h with ⟨c1, h⟩ | ⟨c1, h⟩
    · obtain rfl := Option.some.inj h
      exact ee sch_rvalid [2] [] (p.b 10 c1)
    · have p := p.b 10 c1
      rcases bifSome h with ⟨c2, h⟩ | ⟨c2, h⟩
      · obtain rfl := Option.some.inj h
        exact ee sch_rvalid [2] [] (p.b 15 c2)
      · have p := p.b 15 c2
        rcases bifSome h with ⟨c3, h⟩ | ⟨c3, h⟩
        · obtain rfl := Option.some.inj h
          exact ee sch_rvalid [2] [] (p.b 20 c3)
        · have p := p.b 20 c3
          rcases bifSome h with ⟨c4, h⟩ | ⟨c4, h⟩
          · obtain rfl := Option.some.inj h
            exact ee sch_rvalid [2] [] (p.b 28 c4)
          · obtain ⟨y1, hy1, h⟩ := bindSome h
            have p := p.b 28 c4 |>.c (fb (between_ok hy1) [some (.cells (probC q))])
            rcases bifSome h with ⟨c5, h⟩ | ⟨c5, h⟩
            · obtain rfl := Option.some.inj h
              exact ee sch_rvalid [2] [] (p.b 34 c5)
            · have p := p.b 34 c5
              rcases bifSome h with ⟨c6, h⟩ | ⟨c6, h⟩
              · obtain rfl := Option.some.inj h
                exact ee sch_rvalid [2] [] (p.b 41 c6)
              · obtain ⟨y2, hy2, h⟩ := bindSome h
                have p := p.b 41 c6 |>.c (fb (rcheck_ok hy2) [some (.cells (probC q))])
                rcases bifSome h with ⟨c7, h⟩ | ⟨c7, h⟩
                · obtain rfl := Option.some.inj h
                  exact ee sch_rvalid [2] [] (p.b 46 c7)
                · have p := p.b 46 c7
                  rcases bifSome h with ⟨c8, h⟩ | ⟨c8, h⟩
                  · obtain rfl := Option.some.inj h
                    exact ee sch_rvalid [2] [] (p.b 52 c8)
                  · exact gg sch_rvalid [0] (p.b 52 c8) (en n (hself _ _ h n (Nat.le_refl _)))
def rlevel_l0 (n : Nat) (q : ProbD) (i : Int) : Option (Int × Int) :=
  (rvalid n q).bind fun y1 =>
   bif (y1 != 0) then
    some (0, y1)
   else
    bif (decide (i < 0)) then
     some (0, 260)
    else
     bif (decide (i ≥ (q.cons.length : Int))) then
      some (0, 260)
     else
      if 0 ≤ i ∧ i < (q.cons.length : Int) then
       bif (((q.cons.getD ((i).toNat) default).kind) == 4) then
        some (2, 0)
       else
        bif (((q.cons.getD ((i).toNat) default).kind) == 3) then
         some (2, 0)
        else
         bif (((q.cons.getD ((i).toNat) default).kind) == 5) then
          some (3, 0)
         else
          bif (((q.cons.getD ((i).toNat) default).kind) == 8) then
           some (4, 0)
          else
           bif (((q.cons.getD ((i).toNat) default).kind) == 9) then
            some (4, 0)
           else
            some (1, 0)
      else none
def rlevel (n : Nat) (q : ProbD) (i : Int) : Option (Int × Int) := rlevel_l0 n q i
theorem rlevel_ok {n : Nat} {q : ProbD} {i : Int} {r : Int × Int} (h : rlevel n q i = some r) : ES Tryd.prog GG 10 [.agg 5 (L1 (probC q)), .i i] [] (.tup 2 (L1 [.i r.1, .i r.2])) [] true := by
  refine ot Tryd.func10 fun B N => ?_
  unfold rlevel at h
  unfold rlevel_l0 at h
  obtain ⟨y1, hy1, h⟩ := bindSome h
  have p := H0.c (fb (rvalid_ok hy1) [some (.cells (probC q))])
  rcases bifSome h with ⟨c0, h⟩ | ⟨c0, h⟩
  · cases h
    exact ee sch0 [4, 5] [] (p.b 10 c0)
  · have p := p.b 10 c0
    rcases bifSome h with ⟨c1, h⟩ | ⟨c1, h⟩
    · cases h
      exact ee sch0 [4, 5] [] (p.b 13 c1)
    · have p := p.b 13 c1
      rcases bifSome h with ⟨c2, h⟩ | ⟨c2, h⟩
      · cases h
        exact ee sch0 [4, 5] [] (p.b 19 c2)
      · obtain ⟨g0, h⟩ := guardSome h
        have p := p.b 19 c2 |>.g g0
        rcases bifSome h with ⟨c3, h⟩ | ⟨c3, h⟩
        · cases h
          exact ee sch0 [4, 5] [] (p.b 28 c3)
        · have p := p.b 28 c3
          rcases bifSome h with ⟨c4, h⟩ | ⟨c4, h⟩
          · cases h
            exact ee sch0 [4, 5] [] (p.b 29 c4)
          · have p := p.b 29 c4
            rcases bifSome h with ⟨c5, h⟩ | ⟨c5, h⟩
            · cases h
              exact ee sch0 [4, 5] [] (p.b 31 c5)
            · have p := p.b 31 c5
              rcases bifSome h with ⟨c6, h⟩ | ⟨c6, h⟩
              · cases h
                exact ee sch0 [4, 5] [] (p.b 33 c6)
              · have p := p.b 33 c6
                rcases bifSome h with ⟨c7, h⟩ | ⟨c7, h⟩
                · cases h
                  exact ee sch0 [4, 5] [] (p.b 34 c7)
                · cases h
                  exact ee sch0 [4, 5] [] (p.b 34 c7)
def few_l0 (n : Nat) (q : ProbD) (pos : List Int) : Option Bool :=
  (fewProblem n q).bind fun y1 =>
   bif y1 then
    some (decide ((pos.length : Int) ≤ 20))
   else
    some false
def few (n : Nat) (q : ProbD) (pos : List Int) : Option Bool := few_l0 n q pos
theorem few_ok {n : Nat} {q : ProbD} {pos : List Int} {r : Bool} (h : few n q pos = some r) : ES Tryd.prog GG 8 [.agg 5 (L1 (probC q)), .ints pos] [] (.bool r) [] true := by
  refine ot Tryd.func8 fun B N => ?_
  unfold few at h
  unfold few_l0 at h
  obtain ⟨y1, hy1, h⟩ := bindSome h
  have p := H0.c (fb (fewProblem_ok hy1) [some (.cells (probC q))])
  rcases bifSome h with ⟨c0, h⟩ | ⟨c0, h⟩
  · cases h
    exact ee sch0 [4] [] (p.b 6 c0)
  · obtain rfl := Option.some.inj h
    exact ee sch0 [4] [] (p.b 6 c0)
end Go.Proofs.YtekkngkphejfcaaDoor
namespace Go.Proofs.YtekkngkphejfcaaDoor
open Go.RowKit
set_option maxRecDepth 100000
set_option maxHeartbeats 40000000
inductive deadPPt where
  | l1 (x7 : Int)
def deadP_l1 (n : Nat) (self : deadPPt → Option Bool) (sets : List Int) (x7 : Int) : Option Bool :=
  bif (decide (x7 < (sets.length : Int))) then
   if 0 ≤ x7 ∧ x7 < (sets.length : Int) then
    bif ((sets.getD ((x7).toNat) 0) == 0) then
     some true
    else
     if R64 (x7 + 1) then
      self (.l1 (x7 + 1))
     else none
   else none
  else
   some false
def deadP_l0 (n : Nat) (self : deadPPt → Option Bool) (sets : List Int) : Option Bool :=
  self (.l1 0)
def deadP_m (sets : List Int) : Nat → deadPPt → Option Bool
  | 0, _ => none
  | n + 1, .l1 x7 => deadP_l1 n (deadP_m sets n) sets x7
def deadP (n : Nat) (sets : List Int) : Option Bool := deadP_l0 n (deadP_m sets n) sets
/-- What the points stand for. -/
def deadP_at (n : Nat) (B : Nat) (N : Yard Tryd.prog GG 0) (sets : List Int) (r : Bool) : deadPPt → Prop
  | .l1 x7 => ∀ m0 : Nat, n ≤ m0 → TrK Tryd.prog GG Fence.wide (some B) 0 N (Fin Tryd.prog Tryd.f26 0 (.bool r) []) (toN m0 (atNC (bodyC Tryd.f26) 0 [])) ⟨frm 14 [(5, .ints sets), (6, .i (sets.length : Int)), (7, .i x7)], []⟩
theorem deadP_all (B : Nat) (N : Yard Tryd.prog GG 0) (sets : List Int) : ∀ (n : Nat) (pt : deadPPt) (r : Bool), deadP_m sets n pt = some r → deadP_at n B N sets r pt := by
  intro n; induction n with
  | zero => intro _ _ h; cases h
  | succ n hself =>
   intro pt r h
   cases pt
   case l1 x7 =>
    have h : deadP_l1 n (deadP_m sets n) sets x7 = some r := h
    intro m0 hm0
    refine rd hm0 fun m0 hm0 => ?_
    unfold deadP_l1 at h
    rcases bifSome h with ⟨c0, h⟩ | ⟨c0, h⟩
    · obtain ⟨g0, h⟩ := guardSome h
      have p := H0.b 8 c0 |>.g g0
      rcases bifSome h with ⟨c1, h⟩ | ⟨c1, h⟩
      · obtain rfl := Option.some.inj h
        exact ee sch0 [2] [] (p.b 12 c1)
      · obtain ⟨g1, h⟩ := guardSome h
        exact gg sch0 [] (p.b 12 c1 |>.w 13 g1) (hself _ _ h m0 hm0)
    · obtain rfl := Option.some.inj h
      exact ee sch0 [2] [] (H0.b 8 c0)
theorem deadP_ok {n : Nat} {sets : List Int} {r : Bool} (h : deadP n sets = some r) : ES Tryd.prog GG 26 [.ints sets] [] (.bool r) [] true := by
  refine ot Tryd.func26 fun B N => ?_
  have hself := deadP_all B N sets n
  unfold deadP at h
  unfold deadP_l0 at h
  exact gg sch0 [] H0 (en n (hself _ _ h n (Nat.le_refl _)))
def isDead_l0 (n : Nat) (pos : List Int) : Option Bool :=
  (deadP n pos).bind fun y1 =>
   some y1
def isDead (n : Nat) (pos : List Int) : Option Bool := isDead_l0 n pos
theorem isDead_ok {n : Nat} {pos : List Int} {r : Bool} (h : isDead n pos = some r) : ES Tryd.prog GG 12 [.ints pos] [] (.bool r) [] true := by
  refine ot Tryd.func12 fun B N => ?_
  unfold isDead at h
  unfold isDead_l0 at h
  obtain ⟨y1, hy1, h⟩ := bindSome h
  obtain rfl := Option.some.inj h
  exact ee sch0 [2] [] (H0.c (fb (deadP_ok hy1) []))
inductive pcheckPt where
  | l1 (x20 : Int)
def pcheck_l1 (n : Nat) (self : pcheckPt → Option Int) (q : ProbD) (pos : List Int) (x20 : Int) : Option Int :=
  bif (decide (x20 < (pos.length : Int))) then
   if 0 ≤ x20 ∧ x20 < (pos.length : Int) then
    bif (decide ((pos.getD ((x20).toNat) 0) < 0)) then
     some 250
    else
     if 0 ≤ q.symbols ∧ q.symbols ≤ (IntKind.i64.bits : Int) then
      bif (decide ((pos.getD ((x20).toNat) 0) ≥ (IntKind.i64.wrap (1 * 2 ^ (q.symbols).toNat)))) then
       some 250
      else
       if R64 (x20 + 1) then
        self (.l1 (x20 + 1))
       else none
     else none
   else none
  else
   some 0
def pcheck_l0 (n : Nat) (self : pcheckPt → Option Int) (q : ProbD) (pos : List Int) : Option Int :=
  (valid n q).bind fun y1 =>
   bif (y1 != 0) then
    some y1
   else
    bif ((pos.length : Int) != q.cells) then
     some 250
    else
     self (.l1 0)
def pcheck_m (q : ProbD) (pos : List Int) : Nat → pcheckPt → Option Int
  | 0, _ => none
  | n + 1, .l1 x20 => pcheck_l1 n (pcheck_m q pos n) q pos x20
def pcheck (n : Nat) (q : ProbD) (pos : List Int) : Option Int := pcheck_l0 n (pcheck_m q pos n) q pos
/-- What the points stand for. -/
def pcheck_at (n : Nat) (B : Nat) (N : Yard Tryd.prog GG 0) (q : ProbD) (pos : List Int) (r : Int) : pcheckPt → Prop
  | .l1 x20 => ∀ m0 : Nat, n ≤ m0 → TrK Tryd.prog GG Fence.wide (some B) 0 N (Fin Tryd.prog Tryd.f39 0 (.i r) []) (toN m0 (atNC (bodyC Tryd.f39) 0 [])) ⟨frm 34 [(2, .ref 0 0), (18, .ints pos), (19, .i (pos.length : Int)), (20, .i x20)], [some (.cells (probC q))]⟩
theorem pcheck_all (B : Nat) (N : Yard Tryd.prog GG 0) (q : ProbD) (pos : List Int) : ∀ (n : Nat) (pt : pcheckPt) (r : Int), pcheck_m q pos n pt = some r → pcheck_at n B N q pos r pt := by
  intro n; induction n with
  | zero => intro _ _ h; cases h
  | succ n hself =>
   intro pt r h
   cases pt
   case l1 x20 =>
    have h : pcheck_l1 n (pcheck_m q pos n) q pos x20 = some r := h
    intro m0 hm0
    refine rd hm0 fun m0 hm0 => ?_
    unfold pcheck_l1 at h
    rcases bifSome h with ⟨c0, h⟩ | ⟨c0, h⟩
    · obtain ⟨g0, h⟩ := guardSome h
      have p := H0.b 21 c0 |>.g g0
      rcases bifSome h with ⟨c1, h⟩ | ⟨c1, h⟩
      · obtain rfl := Option.some.inj h
        exact ee sch0 [4] [] (p.b 25 c1)
      · obtain ⟨g1, h⟩ := guardSome h
        have p := p.b 25 c1 |>.g g1
        rcases bifSome h with ⟨c2, h⟩ | ⟨c2, h⟩
        · obtain rfl := Option.some.inj h
          exact ee sch0 [4] [] (p.b 31 c2)
        · obtain ⟨g2, h⟩ := guardSome h
          exact gg sch0 [0] (p.b 31 c2 |>.w 33 g2) (hself _ _ h m0 hm0)
    · obtain rfl := Option.some.inj h
      exact ee sch0 [4] [] (H0.b 21 c0)
theorem pcheck_ok {n : Nat} {q : ProbD} {pos : List Int} {r : Int} (h : pcheck n q pos = some r) : ES Tryd.prog GG 39 [.agg 5 (L1 (probC q)), .ints pos] [] (.i r) [] true := by
  refine ot Tryd.func39 fun B N => ?_
  have hself := pcheck_all B N q pos n
  unfold pcheck at h
  unfold pcheck_l0 at h
  obtain ⟨y1, hy1, h⟩ := bindSome h
  have p := H0.c (fb (valid_ok hy1) [some (.cells (probC q))])
  rcases bifSome h with ⟨c0, h⟩ | ⟨c0, h⟩
  · obtain rfl := Option.some.inj h
    exact ee sch0 [4] [] (p.b 11 c0)
  · have p := p.b 11 c0
    rcases bifSome h with ⟨c1, h⟩ | ⟨c1, h⟩
    · obtain rfl := Option.some.inj h
      exact ee sch0 [4] [] (p.b 17 c1)
    · exact gg sch0 [0] (p.b 17 c1) (en n (hself _ _ h n (Nat.le_refl _)))
def cloneI_l0 (n : Nat) (s_ : List Int) : Option ((List Int)) :=
  if 0 < s_.length ∧ ((True) ∧ (0 = 0 ∧ 0 = ([] : List Int).length) ∧ ([] : List Int).length + s_.length ≤ LIM) then
   if ([] : List Int).length + s_.length = (([] : List Int) ++ s_).length then
    some (([] : List Int) ++ s_)
   else none
  else none
def cloneI (n : Nat) (s_ : List Int) : Option ((List Int)) := cloneI_l0 n s_
theorem cloneI_ok {n : Nat} {s_ : List Int} {r : (List Int)} (h : cloneI n s_ = some r) : ES Tryd.prog GG 49 [.ints s_] [] (.msl 0 1 0 r.length) [some (.ints r)] true := by
  refine ot Tryd.func49 fun B N => ?_
  unfold cloneI at h
  unfold cloneI_l0 at h
  obtain ⟨⟨g0, g1⟩, h⟩ := guardSome h
  obtain ⟨g2, h⟩ := guardSome h
  cases h
  exact el sch0 [2] [1] (H0.g g0 |>.g g1) [] H0 [.msl 0 1 0 (([] : List Int).length + s_.length)] (DLe.mslN g2)
def cloneB_l0 (n : Nat) (s_ : List Bool) : Option ((List Bool)) :=
  if 0 < s_.length ∧ ((True) ∧ (0 = 0 ∧ 0 = ([] : List Bool).length) ∧ ([] : List Bool).length + s_.length ≤ LIM) then
   if ([] : List Bool).length + s_.length = (([] : List Bool) ++ s_).length then
    some (([] : List Bool) ++ s_)
   else none
  else none
def cloneB (n : Nat) (s_ : List Bool) : Option ((List Bool)) := cloneB_l0 n s_
theorem cloneB_ok {n : Nat} {s_ : List Bool} {r : (List Bool)} (h : cloneB n s_ = some r) : ES Tryd.prog GG 75 [.bools s_] [] (.msl 0 1 0 r.length) [some (.bools r)] true := by
  refine ot Tryd.func75 fun B N => ?_
  unfold cloneB at h
  unfold cloneB_l0 at h
  obtain ⟨⟨g0, g1⟩, h⟩ := guardSome h
  obtain ⟨g2, h⟩ := guardSome h
  cases h
  exact el sch0 [2] [1] (H0.g g0 |>.g g1) [] H0 [.msl 0 1 0 (([] : List Bool).length + s_.length)] (DLe.mslN g2)
def checkP_l0 (n : Nat) (q : ProbD) (i : Int) (pos : List Int) : Option Int :=
  (levelP n q i).bind fun y1 =>
   bif (y1.2 != 0) then
    some y1.2
   else
    (pcheck n q pos).bind fun y2 =>
     some y2
def checkP (n : Nat) (q : ProbD) (i : Int) (pos : List Int) : Option Int := checkP_l0 n q i pos
theorem checkP_ok {n : Nat} {q : ProbD} {i : Int} {pos : List Int} {r : Int} (h : checkP n q i pos = some r) : ES Tryd.prog GG 24 [.agg 5 (L1 (probC q)), .i i, .ints pos] [] (.i r) [] true := by
  refine ot Tryd.func24 fun B N => ?_
  unfold checkP at h
  unfold checkP_l0 at h
  obtain ⟨y1, hy1, h⟩ := bindSome h
  have p := H0.c (fb (levelP_ok hy1) [some (.cells (probC q))])
  rcases bifSome h with ⟨c0, h⟩ | ⟨c0, h⟩
  · cases h
    exact ee sch0 [6] [] (p.b 16 c0)
  · obtain ⟨y2, hy2, h⟩ := bindSome h
    obtain rfl := Option.some.inj h
    exact ee sch0 [6] [] (p.b 16 c0 |>.c (fb (pcheck_ok hy2) [some (.cells (probC q))]))
theorem s_samePairs_6 : SOk (regF Tryd.f19 6) [] (List.range 9) [] := by unfold SOk; kernel_rfl
def sch_samePairs : Sch := fun i => match i with
  | 6 => .ord [] (List.range 9) []
  | _ => .no
inductive samePairsPt where
  | l1 (x5 : Int)
def samePairs_l1 (n : Nat) (self : samePairsPt → Option Bool) (a b_ : List (Int × Int)) (x5 : Int) : Option Bool :=
  bif (decide (x5 < (a.length : Int))) then
   if (0 ≤ x5 ∧ x5 < (a.length : Int)) ∧ (0 ≤ x5 ∧ x5 < (b_.length : Int)) then
    bif (!((((a.getD ((x5).toNat) default).1) == ((b_.getD ((x5).toNat) default).1)) && ((((a.getD ((x5).toNat) default).2) == ((b_.getD ((x5).toNat) default).2)) && true))) then
     some false
    else
     if R64 (x5 + 1) then
      self (.l1 (x5 + 1))
     else none
   else none
  else
   some true
def samePairs_l0 (n : Nat) (self : samePairsPt → Option Bool) (a b_ : List (Int × Int)) : Option Bool :=
  bif ((a.length : Int) != (b_.length : Int)) then
   some false
  else
   self (.l1 0)
def samePairs_m (a b_ : List (Int × Int)) : Nat → samePairsPt → Option Bool
  | 0, _ => none
  | n + 1, .l1 x5 => samePairs_l1 n (samePairs_m a b_ n) a b_ x5
def samePairs (n : Nat) (a b_ : List (Int × Int)) : Option Bool := samePairs_l0 n (samePairs_m a b_ n) a b_
/-- What the points stand for. -/
def samePairs_at (n : Nat) (B : Nat) (N : Yard Tryd.prog GG 0) (a b_ : List (Int × Int)) (r : Bool) : samePairsPt → Prop
  | .l1 x5 => ∀ m0 : Nat, n ≤ m0 → TrK Tryd.prog GG Fence.wide (some B) 0 N (Fin Tryd.prog Tryd.f19 0 (.bool r) []) (toN m0 (atNC (bodyC Tryd.f19) 0 [])) ⟨frm 26 [(0, .sl 2 a.length (rowE iiC a)), (1, .sl 2 b_.length (rowE iiC b_)), (5, .i x5)], []⟩
theorem samePairs_all (B : Nat) (N : Yard Tryd.prog GG 0) (a b_ : List (Int × Int)) : ∀ (n : Nat) (pt : samePairsPt) (r : Bool), samePairs_m a b_ n pt = some r → samePairs_at n B N a b_ r pt := by
  intro n; induction n with
  | zero => intro _ _ h; cases h
  | succ n hself =>
   intro pt r h
   cases pt
   case l1 x5 =>
    have h : samePairs_l1 n (samePairs_m a b_ n) a b_ x5 = some r := h
    intro m0 hm0
    refine rd hm0 fun m0 hm0 => ?_
    unfold samePairs_l1 at h
    rcases bifSome h with ⟨c0, h⟩ | ⟨c0, h⟩
    · obtain ⟨⟨g0, g1⟩, h⟩ := guardSome h
      have p := H0.b 14 c0 |>.g s_samePairs_6 |>.g g0 |>.g g1
      rcases bifSome h with ⟨c1, h⟩ | ⟨c1, h⟩
      · obtain rfl := Option.some.inj h
        exact ee sch_samePairs [4] [] (p.b 25 c1)
      · obtain ⟨g2, h⟩ := guardSome h
        exact gg sch_samePairs [] (p.b 25 c1 |>.w 16 g2) (hself _ _ h m0 hm0)
    · obtain rfl := Option.some.inj h
      exact ee sch_samePairs [4] [] (H0.b 14 c0)
theorem samePairs_ok {n : Nat} {a b_ : List (Int × Int)} {r : Bool} (h : samePairs n a b_ = some r) : ES Tryd.prog GG 19 [.sl 2 a.length (rowE iiC a), .sl 2 b_.length (rowE iiC b_)] [] (.bool r) [] true := by
  refine ot Tryd.func19 fun B N => ?_
  have hself := samePairs_all B N a b_ n
  unfold samePairs at h
  unfold samePairs_l0 at h
  rcases bifSome h with ⟨c0, h⟩ | ⟨c0, h⟩
  · obtain rfl := Option.some.inj h
    exact ee sch_samePairs [4] [] (H0.b 10 c0)
  · exact gg sch_samePairs [] (H0.b 10 c0) (en n (hself _ _ h n (Nat.le_refl _)))
inductive gvalidPt where
  | l1 (x15 : Int)
def gvalid_l1 (n : Nat) (self : gvalidPt → Option Int) (g_ : List (List Int)) (sets : List (List Bool)) (x15 : Int) : Option Int :=
  bif (decide (x15 < (sets.length : Int))) then
   if 0 ≤ x15 ∧ x15 < (sets.length : Int) then
    bif ((((sets.getD ((x15).toNat) []).length : Nat) : Int) != (g_.length : Int)) then
     some 1
    else
     if R64 (x15 + 1) then
      self (.l1 (x15 + 1))
     else none
   else none
  else
   some 0
def gvalid_l0 (n : Nat) (self : gvalidPt → Option Int) (g_ : List (List Int)) (sets : List (List Bool)) : Option Int :=
  (gcheck n g_).bind fun y1 =>
   bif (y1 != 0) then
    some y1
   else
    self (.l1 0)
def gvalid_m (g_ : List (List Int)) (sets : List (List Bool)) : Nat → gvalidPt → Option Int
  | 0, _ => none
  | n + 1, .l1 x15 => gvalid_l1 n (gvalid_m g_ sets n) g_ sets x15
def gvalid (n : Nat) (g_ : List (List Int)) (sets : List (List Bool)) : Option Int := gvalid_l0 n (gvalid_m g_ sets n) g_ sets
/-- What the points stand for. -/
def gvalid_at (n : Nat) (B : Nat) (N : Yard Tryd.prog GG 0) (g_ : List (List Int)) (sets : List (List Bool)) (r : Int) : gvalidPt → Prop
  | .l1 x15 => ∀ m0 : Nat, n ≤ m0 → TrK Tryd.prog GG Fence.wide (some B) 0 N (Fin Tryd.prog Tryd.f77 0 (.i r) []) (toN m0 (atNC (bodyC Tryd.f77) 0 [])) ⟨frm 25 [(0, .sl 1 g_.length (rowE intsC g_)), (13, .sl 1 sets.length (rowE boolsC sets)), (14, .i (sets.length : Int)), (15, .i x15)], []⟩
theorem gvalid_all (B : Nat) (N : Yard Tryd.prog GG 0) (g_ : List (List Int)) (sets : List (List Bool)) : ∀ (n : Nat) (pt : gvalidPt) (r : Int), gvalid_m g_ sets n pt = some r → gvalid_at n B N g_ sets r pt := by
  intro n; induction n with
  | zero => intro _ _ h; cases h
  | succ n hself =>
   intro pt r h
   cases pt
   case l1 x15 =>
    have h : gvalid_l1 n (gvalid_m g_ sets n) g_ sets x15 = some r := h
    intro m0 hm0
    refine rd hm0 fun m0 hm0 => ?_
    unfold gvalid_l1 at h
    rcases bifSome h with ⟨c0, h⟩ | ⟨c0, h⟩
    · obtain ⟨g0, h⟩ := guardSome h
      have p := H0.b 16 c0 |>.g g0
      rcases bifSome h with ⟨c1, h⟩ | ⟨c1, h⟩
      · obtain rfl := Option.some.inj h
        exact ee sch0 [4] [] (p.b 23 c1)
      · obtain ⟨g1, h⟩ := guardSome h
        exact gg sch0 [] (p.b 23 c1 |>.w 24 g1) (hself _ _ h m0 hm0)
    · obtain rfl := Option.some.inj h
      exact ee sch0 [4] [] (H0.b 16 c0)
theorem gvalid_ok {n : Nat} {g_ : List (List Int)} {sets : List (List Bool)} {r : Int} (h : gvalid n g_ sets = some r) : ES Tryd.prog GG 77 [.sl 1 g_.length (rowE intsC g_), .sl 1 sets.length (rowE boolsC sets)] [] (.i r) [] true := by
  refine ot Tryd.func77 fun B N => ?_
  have hself := gvalid_all B N g_ sets n
  unfold gvalid at h
  unfold gvalid_l0 at h
  obtain ⟨y1, hy1, h⟩ := bindSome h
  have p := H0.c (fb (gcheck_ok hy1) [])
  rcases bifSome h with ⟨c0, h⟩ | ⟨c0, h⟩
  · obtain rfl := Option.some.inj h
    exact ee sch0 [4] [] (p.b 11 c0)
  · exact gg sch0 [] (p.b 11 c0) (en n (hself _ _ h n (Nat.le_refl _)))
end Go.Proofs.YtekkngkphejfcaaDoor
namespace Go.Proofs.YtekkngkphejfcaaDoor
open Go.RowKit
set_option maxRecDepth 100000
set_option maxHeartbeats 40000000
theorem s_loseW_0 : SOk (regF Tryd.f58 0) [] (List.range 18) [18] := by unfold SOk; kernel_rfl
def sch_loseW : Sch := fun i => match i with
  | 0 => .ord [] (List.range 18) [18]
  | _ => .no
def loseW_l0 (n : Nat) (cell ss : Int) (c : ConsD) (q : ProbD) (pos : List Int) (ln : Nat) (lost : List Int) : Option ((List Int)) :=
  if (0 ≤ cell ∧ cell < (ln : Int)) ∧ 0 + ((cell).toNat) < lost.length ∧ (0 ≤ cell ∧ cell < (pos.length : Int)) then
   some (lost.set (0 + ((cell).toNat)) (bits .or .i64 (lost.getD (0 + ((cell).toNat)) 0) (bits .and .i64 (pos.getD ((cell).toNat) 0) ss)))
  else none
def loseW (n : Nat) (cell ss : Int) (c : ConsD) (q : ProbD) (pos : List Int) (ln : Nat) (lost : List Int) : Option ((List Int)) := loseW_l0 n cell ss c q pos ln lost
theorem loseW_ok {n : Nat} {cell ss : Int} {c : ConsD} {q : ProbD} {pos : List Int} {ln : Nat} {lost : List Int} {r : (List Int)} (h : loseW n cell ss c q pos ln lost = some r) : ES Tryd.prog GG 58 [.ref 0 0, .i cell, .i ss] [some (.cells (consC c ++ probC q ++ [.ints pos, .msl 1 1 0 ln])), some (.ints lost)] (.tup 0 (fun j => ([] : List DV).getD j .any)) [some (.cells (consC c ++ probC q ++ [.ints pos, .msl 1 1 0 ln])), some (.ints r)] false := by
  refine ot Tryd.func58 fun B N => ?_
  unfold loseW at h
  unfold loseW_l0 at h
  obtain ⟨⟨g0, g1, g2⟩, h⟩ := guardSome h
  cases h
  exact ee sch_loseW [] [0, 1] (H0.g s_loseW_0 |>.g g0 |>.g g1 |>.g g2 |>.g g0 |>.g g1)
theorem s_onlyW_0 : SOk (regF Tryd.f59 0) [] (List.range 22) [22] := by unfold SOk; kernel_rfl
def sch_onlyW : Sch := fun i => match i with
  | 0 => .ord [] (List.range 22) [22]
  | _ => .no
def onlyW_l0 (n : Nat) (cell : Int) (c : ConsD) (q : ProbD) (pos : List Int) (ln : Nat) (lost : List Int) : Option ((List Int)) :=
  if (0 ≤ cell ∧ cell < (ln : Int)) ∧ 0 + ((cell).toNat) < lost.length ∧ (0 ≤ cell ∧ cell < (pos.length : Int)) then
   some (lost.set (0 + ((cell).toNat)) (bits .or .i64 (lost.getD (0 + ((cell).toNat)) 0) (bits .andNot .i64 (pos.getD ((cell).toNat) 0) c.set)))
  else none
def onlyW (n : Nat) (cell : Int) (c : ConsD) (q : ProbD) (pos : List Int) (ln : Nat) (lost : List Int) : Option ((List Int)) := onlyW_l0 n cell c q pos ln lost
theorem onlyW_ok {n : Nat} {cell : Int} {c : ConsD} {q : ProbD} {pos : List Int} {ln : Nat} {lost : List Int} {r : (List Int)} (h : onlyW n cell c q pos ln lost = some r) : ES Tryd.prog GG 59 [.ref 0 0, .i cell] [some (.cells (consC c ++ probC q ++ [.ints pos, .msl 1 1 0 ln])), some (.ints lost)] (.tup 0 (fun j => ([] : List DV).getD j .any)) [some (.cells (consC c ++ probC q ++ [.ints pos, .msl 1 1 0 ln])), some (.ints r)] false := by
  refine ot Tryd.func59 fun B N => ?_
  unfold onlyW at h
  unfold onlyW_l0 at h
  obtain ⟨⟨g0, g1, g2⟩, h⟩ := guardSome h
  cases h
  exact ee sch_onlyW [] [0, 1] (H0.g s_onlyW_0 |>.g g0 |>.g g1 |>.g g2 |>.g g0 |>.g g1)
inductive diffWPt where
  | l1 (x3 x4 x17 : Int)
  | l2 (x3 x4 x48 : Int) (o1 : List Int)
def diffW_l1 (n : Nat) (self : diffWPt → Option (Bool × (List Int))) (c : ConsD) (q : ProbD) (pos : List Int) (ln : Nat) (lost : List Int) (x3 x4 x17 : Int) : Option (Bool × (List Int)) :=
  bif (decide (x17 < (c.cells.length : Int))) then
   if (0 ≤ x17 ∧ x17 < (c.cells.length : Int)) ∧ (0 ≤ (c.cells.getD ((x17).toNat) 0) ∧ (c.cells.getD ((x17).toNat) 0) < (pos.length : Int)) ∧ R64 ((pos.getD ((c.cells.getD ((x17).toNat) 0).toNat) 0) - 1) then
    bif ((bits .and .i64 (pos.getD ((c.cells.getD ((x17).toNat) 0).toNat) 0) ((pos.getD ((c.cells.getD ((x17).toNat) 0).toNat) 0) - 1)) == 0) then
     if R64 (x17 + 1) then
      self (.l1 (bits .or .i64 x3 (pos.getD ((c.cells.getD ((x17).toNat) 0).toNat) 0)) (bits .or .i64 x4 (bits .and .i64 x3 (pos.getD ((c.cells.getD ((x17).toNat) 0).toNat) 0))) (x17 + 1))
     else none
    else
     if R64 (x17 + 1) then
      self (.l1 x3 x4 (x17 + 1))
     else none
   else none
  else
   self (.l2 x3 x4 0 lost)
def diffW_l2 (n : Nat) (self : diffWPt → Option (Bool × (List Int))) (c : ConsD) (q : ProbD) (pos : List Int) (ln : Nat) (lost : List Int) (x3 x4 x48 : Int) (o1 : List Int) : Option (Bool × (List Int)) :=
  bif (decide (x48 < (c.cells.length : Int))) then
   if (0 ≤ x48 ∧ x48 < (c.cells.length : Int)) ∧ (0 ≤ (c.cells.getD ((x48).toNat) 0) ∧ (c.cells.getD ((x48).toNat) 0) < (pos.length : Int)) ∧ R64 ((pos.getD ((c.cells.getD ((x48).toNat) 0).toNat) 0) - 1) then
    bif ((bits .and .i64 (pos.getD ((c.cells.getD ((x48).toNat) 0).toNat) 0) ((pos.getD ((c.cells.getD ((x48).toNat) 0).toNat) 0) - 1)) == 0) then
     (loseW n (c.cells.getD ((x48).toNat) 0) (bits .or .i64 (bits .andNot .i64 x3 (pos.getD ((c.cells.getD ((x48).toNat) 0).toNat) 0)) x4) c q pos ln o1).bind fun y1 =>
      if R64 (x48 + 1) then
       self (.l2 x3 x4 (x48 + 1) y1)
      else none
    else
     (loseW n (c.cells.getD ((x48).toNat) 0) x3 c q pos ln o1).bind fun y1 =>
      if R64 (x48 + 1) then
       self (.l2 x3 x4 (x48 + 1) y1)
      else none
   else none
  else
   some (true, o1)
def diffW_l0 (n : Nat) (self : diffWPt → Option (Bool × (List Int))) (c : ConsD) (q : ProbD) (pos : List Int) (ln : Nat) (lost : List Int) : Option (Bool × (List Int)) :=
  self (.l1 0 0 0)
def diffW_m (c : ConsD) (q : ProbD) (pos : List Int) (ln : Nat) (lost : List Int) : Nat → diffWPt → Option (Bool × (List Int))
  | 0, _ => none
  | n + 1, .l1 x3 x4 x17 => diffW_l1 n (diffW_m c q pos ln lost n) c q pos ln lost x3 x4 x17
  | n + 1, .l2 x3 x4 x48 o1 => diffW_l2 n (diffW_m c q pos ln lost n) c q pos ln lost x3 x4 x48 o1
def diffW (n : Nat) (c : ConsD) (q : ProbD) (pos : List Int) (ln : Nat) (lost : List Int) : Option (Bool × (List Int)) := diffW_l0 n (diffW_m c q pos ln lost n) c q pos ln lost
/-- What the points stand for. -/
def diffW_at (n : Nat) (B : Nat) (N : Yard Tryd.prog GG 2) (c : ConsD) (q : ProbD) (pos : List Int) (ln : Nat) (lost : List Int) (r : Bool × (List Int)) : diffWPt → Prop
  | .l1 x3 x4 x17 => ∀ m0 : Nat, n ≤ m0 → TrK Tryd.prog GG Fence.wide (some B) 2 N (Fin Tryd.prog Tryd.f40 2 (.bool r.1) [some (.cells (consC c ++ probC q ++ [.ints pos, .msl 1 1 0 ln])), some (.ints r.2)]) (toN m0 (atNC (bodyC Tryd.f40) 0 [])) ⟨frm 77 [(0, .ref 0 0), (3, .i x3), (4, .i x4), (15, .ints c.cells), (16, .i (c.cells.length : Int)), (17, .i x17)], [some (.cells (consC c ++ probC q ++ [.ints pos, .msl 1 1 0 ln])), some (.ints lost)]⟩
  | .l2 x3 x4 x48 o1 => ∀ m0 : Nat, n ≤ m0 → TrK Tryd.prog GG Fence.wide (some B) 2 N (Fin Tryd.prog Tryd.f40 2 (.bool r.1) [some (.cells (consC c ++ probC q ++ [.ints pos, .msl 1 1 0 ln])), some (.ints r.2)]) (toN m0 (atNC (bodyC Tryd.f40) 2 [])) ⟨frm 77 [(0, .ref 0 0), (3, .i x3), (4, .i x4), (46, .ints c.cells), (47, .i (c.cells.length : Int)), (48, .i x48)], [some (.cells (consC c ++ probC q ++ [.ints pos, .msl 1 1 0 ln])), some (.ints o1)]⟩
theorem diffW_all (B : Nat) (N : Yard Tryd.prog GG 2) (c : ConsD) (q : ProbD) (pos : List Int) (ln : Nat) (lost : List Int) : ∀ (n : Nat) (pt : diffWPt) (r : Bool × (List Int)), diffW_m c q pos ln lost n pt = some r → diffW_at n B N c q pos ln lost r pt := by
  intro n; induction n with
  | zero => intro _ _ h; cases h
  | succ n hself =>
   intro pt r h
   cases pt
   case l1 x3 x4 x17 =>
    have h : diffW_l1 n (diffW_m c q pos ln lost n) c q pos ln lost x3 x4 x17 = some r := h
    intro m0 hm0
    refine rd hm0 fun m0 hm0 => ?_
    unfold diffW_l1 at h
    rcases bifSome h with ⟨c0, h⟩ | ⟨c0, h⟩
    · obtain ⟨⟨g0, g1, g2⟩, h⟩ := guardSome h
      have p := H0.b 18 c0 |>.g g0 |>.g g1 |>.w 30 g2
      rcases bifSome h with ⟨c1, h⟩ | ⟨c1, h⟩
      · obtain ⟨g3, h⟩ := guardSome h
        exact gg sch0 [0, 1] (p.b 32 c1 |>.w 41 g3) (hself _ _ h m0 hm0)
      · obtain ⟨g3, h⟩ := guardSome h
        exact gg sch0 [0, 1] (p.b 32 c1 |>.w 41 g3) (hself _ _ h m0 hm0)
    · exact gg sch0 [0, 1] (H0.b 18 c0) (en n (hself _ _ h n (Nat.le_refl _)))
   case l2 x3 x4 x48 o1 =>
    have h : diffW_l2 n (diffW_m c q pos ln lost n) c q pos ln lost x3 x4 x48 o1 = some r := h
    intro m0 hm0
    refine rd hm0 fun m0 hm0 => ?_
    unfold diffW_l2 at h
    rcases bifSome h with ⟨c0, h⟩ | ⟨c0, h⟩
    · obtain ⟨⟨g0, g1, g2⟩, h⟩ := guardSome h
      have p := H0.b 49 c0 |>.g g0 |>.g g1 |>.w 61 g2
      rcases bifSome h with ⟨c1, h⟩ | ⟨c1, h⟩
      · obtain ⟨y1, hy1, h⟩ := bindSome h
        obtain ⟨g3, h⟩ := guardSome h
        exact gg sch0 [0, 1] (p.b 63 c1 |>.c (em (loseW_ok hy1) [0, 1] [some (.cells (consC c ++ probC q ++ [.ints pos, .msl 1 1 0 ln])), some (.ints o1)]) |>.w 76 g3) (hself _ _ h m0 hm0)
      · obtain ⟨y1, hy1, h⟩ := bindSome h
        obtain ⟨g3, h⟩ := guardSome h
        exact gg sch0 [0, 1] (p.b 63 c1 |>.c (em (loseW_ok hy1) [0, 1] [some (.cells (consC c ++ probC q ++ [.ints pos, .msl 1 1 0 ln])), some (.ints o1)]) |>.w 76 g3) (hself _ _ h m0 hm0)
    · cases h
      exact ee sch0 [2] [0, 1] (H0.b 49 c0)
theorem diffW_ok {n : Nat} {c : ConsD} {q : ProbD} {pos : List Int} {ln : Nat} {lost : List Int} {r : Bool × (List Int)} (h : diffW n c q pos ln lost = some r) : ES Tryd.prog GG 40 [.ref 0 0] [some (.cells (consC c ++ probC q ++ [.ints pos, .msl 1 1 0 ln])), some (.ints lost)] (.bool r.1) [some (.cells (consC c ++ probC q ++ [.ints pos, .msl 1 1 0 ln])), some (.ints r.2)] false := by
  refine ot Tryd.func40 fun B N => ?_
  have hself := diffW_all B N c q pos ln lost n
  unfold diffW at h
  unfold diffW_l0 at h
  exact gg sch0 [0, 1] H0 (en n (hself _ _ h n (Nat.le_refl _)))
theorem s_countW_5 : SOk (regF Tryd.f41 5) [] (List.range 15) [] := by unfold SOk; kernel_rfl
theorem s_countW_8 : SOk (regF Tryd.f41 8) [] (List.range 15) [] := by unfold SOk; kernel_rfl
theorem s_countW_16 : SOk (regF Tryd.f41 16) [] (List.range 23) [] := by unfold SOk; kernel_rfl
theorem s_countW_18 : SOk (regF Tryd.f41 18) [] (List.range 23) [] := by unfold SOk; kernel_rfl
def sch_countW : Sch := fun i => match i with
  | 5 => .ord [] (List.range 15) []
  | 8 => .ord [] (List.range 15) []
  | 16 => .ord [] (List.range 23) []
  | 18 => .ord [] (List.range 23) []
  | _ => .no
inductive countWPt where
  | l1 (x3 x4 x15 : Int)
  | l2 (x3 x4 x78 : Int) (o1 : List Int)
def countW_l1 (n : Nat) (self : countWPt → Option (Bool × (List Int))) (c : ConsD) (q : ProbD) (pos : List Int) (ln : Nat) (lost : List Int) (x3 x4 x15 : Int) : Option (Bool × (List Int)) :=
  bif (decide (x15 < (c.cells.length : Int))) then
   if (0 ≤ x15 ∧ x15 < (c.cells.length : Int)) ∧ (0 ≤ (c.cells.getD ((x15).toNat) 0) ∧ (c.cells.getD ((x15).toNat) 0) < (pos.length : Int)) then
    bif ((bits .andNot .i64 (pos.getD ((c.cells.getD ((x15).toNat) 0).toNat) 0) c.set) == 0) then
     if R64 (x3 + 1) ∧ R64 (x4 + 1) ∧ R64 (x15 + 1) then
      self (.l1 (x3 + 1) (x4 + 1) (x15 + 1))
     else none
    else
     bif ((bits .and .i64 (pos.getD ((c.cells.getD ((x15).toNat) 0).toNat) 0) c.set) != 0) then
      if R64 (x4 + 1) ∧ R64 (x15 + 1) then
       self (.l1 x3 (x4 + 1) (x15 + 1))
      else none
     else
      if R64 (x15 + 1) then
       self (.l1 x3 x4 (x15 + 1))
      else none
   else none
  else
   bif (decide (x3 > c.hi)) then
    some (false, lost)
   else
    bif (decide (x4 < c.lo)) then
     some (false, lost)
    else
     self (.l2 x3 x4 0 lost)
def countW_l2 (n : Nat) (self : countWPt → Option (Bool × (List Int))) (c : ConsD) (q : ProbD) (pos : List Int) (ln : Nat) (lost : List Int) (x3 x4 x78 : Int) (o1 : List Int) : Option (Bool × (List Int)) :=
  bif (decide (x78 < (c.cells.length : Int))) then
   if 0 ≤ x78 ∧ x78 < (c.cells.length : Int) then
    bif (x3 == c.hi) then
     if 0 ≤ (c.cells.getD ((x78).toNat) 0) ∧ (c.cells.getD ((x78).toNat) 0) < (pos.length : Int) then
      bif ((bits .andNot .i64 (pos.getD ((c.cells.getD ((x78).toNat) 0).toNat) 0) c.set) != 0) then
       (loseW n (c.cells.getD ((x78).toNat) 0) c.set c q pos ln o1).bind fun y1 =>
        bif (x4 == c.lo) then
         bif ((bits .and .i64 (pos.getD ((c.cells.getD ((x78).toNat) 0).toNat) 0) c.set) != 0) then
          (onlyW n (c.cells.getD ((x78).toNat) 0) c q pos ln y1).bind fun y2 =>
           if R64 (x78 + 1) then
            self (.l2 x3 x4 (x78 + 1) y2)
           else none
         else
          if R64 (x78 + 1) then
           self (.l2 x3 x4 (x78 + 1) y1)
          else none
        else
         if R64 (x78 + 1) then
          self (.l2 x3 x4 (x78 + 1) y1)
         else none
      else
       bif (x4 == c.lo) then
        bif ((bits .and .i64 (pos.getD ((c.cells.getD ((x78).toNat) 0).toNat) 0) c.set) != 0) then
         (onlyW n (c.cells.getD ((x78).toNat) 0) c q pos ln o1).bind fun y1 =>
          if R64 (x78 + 1) then
           self (.l2 x3 x4 (x78 + 1) y1)
          else none
        else
         if R64 (x78 + 1) then
          self (.l2 x3 x4 (x78 + 1) o1)
         else none
       else
        if R64 (x78 + 1) then
         self (.l2 x3 x4 (x78 + 1) o1)
        else none
     else none
    else
     bif (x4 == c.lo) then
      if 0 ≤ (c.cells.getD ((x78).toNat) 0) ∧ (c.cells.getD ((x78).toNat) 0) < (pos.length : Int) then
       bif ((bits .and .i64 (pos.getD ((c.cells.getD ((x78).toNat) 0).toNat) 0) c.set) != 0) then
        (onlyW n (c.cells.getD ((x78).toNat) 0) c q pos ln o1).bind fun y1 =>
         if R64 (x78 + 1) then
          self (.l2 x3 x4 (x78 + 1) y1)
         else none
       else
        if R64 (x78 + 1) then
         self (.l2 x3 x4 (x78 + 1) o1)
        else none
      else none
     else
      if R64 (x78 + 1) then
       self (.l2 x3 x4 (x78 + 1) o1)
      else none
   else none
  else
   some (true, o1)
def countW_l0 (n : Nat) (self : countWPt → Option (Bool × (List Int))) (c : ConsD) (q : ProbD) (pos : List Int) (ln : Nat) (lost : List Int) : Option (Bool × (List Int)) :=
  self (.l1 0 0 0)
def countW_m (c : ConsD) (q : ProbD) (pos : List Int) (ln : Nat) (lost : List Int) : Nat → countWPt → Option (Bool × (List Int))
  | 0, _ => none
  | n + 1, .l1 x3 x4 x15 => countW_l1 n (countW_m c q pos ln lost n) c q pos ln lost x3 x4 x15
  | n + 1, .l2 x3 x4 x78 o1 => countW_l2 n (countW_m c q pos ln lost n) c q pos ln lost x3 x4 x78 o1
def countW (n : Nat) (c : ConsD) (q : ProbD) (pos : List Int) (ln : Nat) (lost : List Int) : Option (Bool × (List Int)) := countW_l0 n (countW_m c q pos ln lost n) c q pos ln lost
/-- What the points stand for. -/
def countW_at (n : Nat) (B : Nat) (N : Yard Tryd.prog GG 2) (c : ConsD) (q : ProbD) (pos : List Int) (ln : Nat) (lost : List Int) (r : Bool × (List Int)) : countWPt → Prop
  | .l1 x3 x4 x15 => ∀ m0 : Nat, n ≤ m0 → TrK Tryd.prog GG Fence.wide (some B) 2 N (Fin Tryd.prog Tryd.f41 2 (.bool r.1) [some (.cells (consC c ++ probC q ++ [.ints pos, .msl 1 1 0 ln])), some (.ints r.2)]) (toN m0 (atNC (bodyC Tryd.f41) 0 [])) ⟨frm 140 [(0, .ref 0 0), (3, .i x3), (4, .i x4), (13, .ints c.cells), (14, .i (c.cells.length : Int)), (15, .i x15)], [some (.cells (consC c ++ probC q ++ [.ints pos, .msl 1 1 0 ln])), some (.ints lost)]⟩
  | .l2 x3 x4 x78 o1 => ∀ m0 : Nat, n ≤ m0 → TrK Tryd.prog GG Fence.wide (some B) 2 N (Fin Tryd.prog Tryd.f41 2 (.bool r.1) [some (.cells (consC c ++ probC q ++ [.ints pos, .msl 1 1 0 ln])), some (.ints r.2)]) (toN m0 (atNC (bodyC Tryd.f41) 3 [])) ⟨frm 140 [(0, .ref 0 0), (3, .i x3), (4, .i x4), (76, .ints c.cells), (77, .i (c.cells.length : Int)), (78, .i x78)], [some (.cells (consC c ++ probC q ++ [.ints pos, .msl 1 1 0 ln])), some (.ints o1)]⟩
theorem countW_all (B : Nat) (N : Yard Tryd.prog GG 2) (c : ConsD) (q : ProbD) (pos : List Int) (ln : Nat) (lost : List Int) : ∀ (n : Nat) (pt : countWPt) (r : Bool × (List Int)), countW_m c q pos ln lost n pt = some r → countW_at n B N c q pos ln lost r pt := by
  intro n; induction n with
  | zero => intro _ _ h; cases h
  | succ n hself =>
   intro pt r h
   cases pt
   case l1 x3 x4 x15 =>
    have h : countW_l1 n (countW_m c q pos ln lost n) c q pos ln lost x3 x4 x15 = some r := h
    intro m0 hm0
    refine rd hm0 fun m0 hm0 => ?_
    unfold countW_l1 at h
    rcases bifSome h with ⟨c0, h⟩ | ⟨c0, h⟩
    · obtain ⟨⟨g0, g1⟩, h⟩ := guardSome h
      have p := H0.b 16 c0 |>.g g0 |>.g s_countW_5 |>.g g1
      rcases bifSome h with ⟨c1, h⟩ | ⟨c1, h⟩
      · obtain ⟨⟨g2, g3, g4⟩, h⟩ := guardSome h
        exact gg sch_countW [0, 1] (p.b 33 c1 |>.w 35 g2 |>.w 37 g3 |>.w 55 g4) (hself _ _ h m0 hm0)
      · have p := p.b 33 c1 |>.g s_countW_8 |>.g g1
        rcases bifSome h with ⟨c2, h⟩ | ⟨c2, h⟩
        · obtain ⟨⟨g2, g3⟩, h⟩ := guardSome h
          exact gg sch_countW [0, 1] (p.b 52 c2 |>.w 54 g2 |>.w 55 g3) (hself _ _ h m0 hm0)
        · obtain ⟨g2, h⟩ := guardSome h
          exact gg sch_countW [0, 1] (p.b 52 c2 |>.w 55 g2) (hself _ _ h m0 hm0)
    · have p := H0.b 16 c0
      rcases bifSome h with ⟨c1, h⟩ | ⟨c1, h⟩
      · cases h
        exact ee sch_countW [2] [0, 1] (p.b 62 c1)
      · have p := p.b 62 c1
        rcases bifSome h with ⟨c2, h⟩ | ⟨c2, h⟩
        · cases h
          exact ee sch_countW [2] [0, 1] (p.b 70 c2)
        · exact gg sch_countW [0, 1] (p.b 70 c2) (en n (hself _ _ h n (Nat.le_refl _)))
   case l2 x3 x4 x78 o1 =>
    have h : countW_l2 n (countW_m c q pos ln lost n) c q pos ln lost x3 x4 x78 o1 = some r := h
    intro m0 hm0
    refine rd hm0 fun m0 hm0 => ?_
    unfold countW_l2 at h
    rcases bifSome h with ⟨c0, h⟩ | ⟨c0, h⟩
    · obtain ⟨g0, h⟩ := guardSome h
      have p := H0.b 79 c0 |>.g g0 |>.g s_countW_16
      rcases bifSome h with ⟨c1, h⟩ | ⟨c1, h⟩
      · obtain ⟨g1, h⟩ := guardSome h
        have p := p.b 88 c1 |>.g g1
        rcases bifSome h with ⟨c2, h⟩ | ⟨c2, h⟩
        · obtain ⟨y1, hy1, h⟩ := bindSome h
          have p := p.b 103 c2 |>.c (em (loseW_ok hy1) [0, 1] [some (.cells (consC c ++ probC q ++ [.ints pos, .msl 1 1 0 ln])), some (.ints o1)]) |>.g s_countW_18
          rcases bifSome h with ⟨c3, h⟩ | ⟨c3, h⟩
          · have p := p.b 119 c3 |>.g g1
            rcases bifSome h with ⟨c4, h⟩ | ⟨c4, h⟩
            · obtain ⟨y2, hy2, h⟩ := bindSome h
              obtain ⟨g2, h⟩ := guardSome h
              exact gg sch_countW [0, 1] (p.b 134 c4 |>.c (em (onlyW_ok hy2) [0, 1] [some (.cells (consC c ++ probC q ++ [.ints pos, .msl 1 1 0 ln])), some (.ints y1)]) |>.w 139 g2) (hself _ _ h m0 hm0)
            · obtain ⟨g2, h⟩ := guardSome h
              exact gg sch_countW [0, 1] (p.b 134 c4 |>.w 139 g2) (hself _ _ h m0 hm0)
          · obtain ⟨g2, h⟩ := guardSome h
            exact gg sch_countW [0, 1] (p.b 119 c3 |>.w 139 g2) (hself _ _ h m0 hm0)
        · have p := p.b 103 c2 |>.g s_countW_18
          rcases bifSome h with ⟨c3, h⟩ | ⟨c3, h⟩
          · have p := p.b 119 c3 |>.g g1
            rcases bifSome h with ⟨c4, h⟩ | ⟨c4, h⟩
            · obtain ⟨y1, hy1, h⟩ := bindSome h
              obtain ⟨g2, h⟩ := guardSome h
              exact gg sch_countW [0, 1] (p.b 134 c4 |>.c (em (onlyW_ok hy1) [0, 1] [some (.cells (consC c ++ probC q ++ [.ints pos, .msl 1 1 0 ln])), some (.ints o1)]) |>.w 139 g2) (hself _ _ h m0 hm0)
            · obtain ⟨g2, h⟩ := guardSome h
              exact gg sch_countW [0, 1] (p.b 134 c4 |>.w 139 g2) (hself _ _ h m0 hm0)
          · obtain ⟨g2, h⟩ := guardSome h
            exact gg sch_countW [0, 1] (p.b 119 c3 |>.w 139 g2) (hself _ _ h m0 hm0)
      · have p := p.b 88 c1 |>.g s_countW_18
        rcases bifSome h with ⟨c2, h⟩ | ⟨c2, h⟩
        · obtain ⟨g1, h⟩ := guardSome h
          have p := p.b 119 c2 |>.g g1
          rcases bifSome h with ⟨c3, h⟩ | ⟨c3, h⟩
          · obtain ⟨y1, hy1, h⟩ := bindSome h
            obtain ⟨g2, h⟩ := guardSome h
            exact gg sch_countW [0, 1] (p.b 134 c3 |>.c (em (onlyW_ok hy1) [0, 1] [some (.cells (consC c ++ probC q ++ [.ints pos, .msl 1 1 0 ln])), some (.ints o1)]) |>.w 139 g2) (hself _ _ h m0 hm0)
          · obtain ⟨g2, h⟩ := guardSome h
            exact gg sch_countW [0, 1] (p.b 134 c3 |>.w 139 g2) (hself _ _ h m0 hm0)
        · obtain ⟨g1, h⟩ := guardSome h
          exact gg sch_countW [0, 1] (p.b 119 c2 |>.w 139 g1) (hself _ _ h m0 hm0)
    · cases h
      exact ee sch_countW [2] [0, 1] (H0.b 79 c0)
theorem countW_ok {n : Nat} {c : ConsD} {q : ProbD} {pos : List Int} {ln : Nat} {lost : List Int} {r : Bool × (List Int)} (h : countW n c q pos ln lost = some r) : ES Tryd.prog GG 41 [.ref 0 0] [some (.cells (consC c ++ probC q ++ [.ints pos, .msl 1 1 0 ln])), some (.ints lost)] (.bool r.1) [some (.cells (consC c ++ probC q ++ [.ints pos, .msl 1 1 0 ln])), some (.ints r.2)] false := by
  refine ot Tryd.func41 fun B N => ?_
  have hself := countW_all B N c q pos ln lost n
  unfold countW at h
  unfold countW_l0 at h
  exact gg sch_countW [0, 1] H0 (en n (hself _ _ h n (Nat.le_refl _)))
end Go.Proofs.YtekkngkphejfcaaDoor
namespace Go.Proofs.YtekkngkphejfcaaDoor
open Go.RowKit
set_option maxRecDepth 100000
set_option maxHeartbeats 40000000
def symbolsF_l0 (n : Nat) (set_ : Int) : Option Unit :=
  some ()
def symbolsF (n : Nat) (set_ : Int) : Option Unit := symbolsF_l0 n set_
theorem symbolsF_ok {n : Nat} (set_ : Int) {r : Unit} (h : symbolsF n set_ = some r) : ES Tryd.prog GG 27 [.i set_] [] (.fn 50 1 (L1 [.ref 0 0])) [some (.cells [.i set_])] true := by
  refine ot Tryd.func27 fun B N => ?_
  unfold symbolsF at h
  unfold symbolsF_l0 at h
  cases h
  exact ee sch0 [2] [0] H0
theorem symbols_it {x : Int} (hx : 0 ≤ x ∧ x < 9223372036854775808) (h : DH) : ES Tryd.prog GG 27 [.i x] h (.it h.length) (h ++ [some (.iter ((symsI x).map encI))]) true := by
  refine ES.iterOf (symbolsF_ok (n := 0) x (r := ()) rfl) rfl (by kernel_rfl) (fun args W => ?_) (fun w b o u hg hng hb hc hr => symbols_law hx w b o u hg hng hb hc hr) rfl (fun b hb => ?_) h
  · exact enterOk Tryd.func50 (by kernel_rfl) (by kernel_rfl) args W
  · rw [hb]; decide
def t_endsW_4 : ST := .rd 0 (.rd 1 (.rd 2 (.rd 3 (.rd 4 (.rd 5 (.rd 6 (.rd 7 (.rd 8 (.rd 9 (.rd 10 (.rd 11 (.rd 12 (.rd 13 (.rd 14 (.rd 15 (.rd 16 (.rd 17 (.rd 18 (.rd 19 (.ef 20 (.ef 21 (.fin [] [4, 5]) (.no)) (.no)))))))))))))))))))))
theorem s_endsW_4 : TOk (regF Tryd.f60 4) [20] t_endsW_4 := by unfold TOk; kernel_rfl
def t_endsW_5 : ST := .rd 0 (.rd 1 (.ef 2 (.ef 3 (.fin [] [4, 5]) (.no)) (.no)))
theorem s_endsW_5 : TOk (regF Tryd.f60 5) [2] t_endsW_5 := by unfold TOk; kernel_rfl
def sch_endsW : Sch := fun i => match i with
  | 4 => .tre [20] t_endsW_4
  | 5 => .tre [2] t_endsW_5
  | _ => .no
def hp_endsW_0 (c : ConsD) (q : ProbD) (pos : List Int) (ln : Nat) (lost : List Int) : DH := [some (.cells (consC c ++ probC q ++ [.ints pos, .msl 1 1 0 ln])), some (.ints lost), some (.cells [.ref 0 0]), some (.cells [.i 100]), some (.cells [.i (-1)])]
def hp_endsW_1 (c : ConsD) (q : ProbD) (pos : List Int) (ln : Nat) (lost : List Int) (ss : Int) : DH := [some (.cells (consC c ++ probC q ++ [.ints pos, .msl 1 1 0 ln])), some (.ints lost), some (.cells [.ref 0 0]), some (.cells [.i 100]), some (.cells [.i (-1)]), some (.iter ((symsI ss).map encI))]
def tgt_endsW_2 (c : ConsD) (q : ProbD) (pos : List Int) (ln : Nat) (lost : List Int) (y1_0_0 y1_0_1 : Int) : St := ⟨(frm 32 [(4, .ref 3 0), (5, .ref 4 0)]), ([some (.cells (consC c ++ probC q ++ [.ints pos, .msl 1 1 0 ln])), some (.ints lost), some (.cells [.ref 0 0]), some (.cells [.i y1_0_0]), some (.cells [.i y1_0_1]), none] : DH)⟩
def hp_endsW_3 (c : ConsD) (q : ProbD) (pos : List Int) (ln : Nat) (lost : List Int) (r8s0_3_0 r8s0_4_0 : Int) : DH := [some (.cells (consC c ++ probC q ++ [.ints pos, .msl 1 1 0 ln])), some (.ints lost), some (.cells [.ref 0 0]), some (.cells [.i r8s0_3_0]), some (.cells [.i r8s0_4_0]), none]
def tgt_endsW_4 (c : ConsD) (q : ProbD) (pos : List Int) (ln : Nat) (lost : List Int) (e8 r8s0_3_0 r8s0_4_0 : Int) : St := ⟨(frm 32 [(4, .ref 3 0), (5, .ref 4 0)]), ([some (.cells (consC c ++ probC q ++ [.ints pos, .msl 1 1 0 ln])), some (.ints lost), some (.cells [.ref 0 0]), some (.cells [.i (if (q.values.getD ((e8).toNat) 0) < r8s0_3_0 then (q.values.getD ((e8).toNat) 0) else r8s0_3_0)]), some (.cells [.i (if (q.values.getD ((e8).toNat) 0) > r8s0_4_0 then (q.values.getD ((e8).toNat) 0) else r8s0_4_0)]), none] : DH)⟩
inductive endsW_b8T where
  | s0 (r8s0_3_0 r8s0_4_0 : Int)
def endsW_b8_H (c : ConsD) (q : ProbD) (pos : List Int) (ln : Nat) (lost : List Int) : endsW_b8T → DH
  | .s0 r8s0_3_0 r8s0_4_0 => [some (.cells (consC c ++ probC q ++ [.ints pos, .msl 1 1 0 ln])), some (.ints lost), some (.cells [.ref 0 0]), some (.cells [.i r8s0_3_0]), some (.cells [.i r8s0_4_0]), none]
def endsW_b8_e0 (n : Nat) (c : ConsD) (q : ProbD) (pos : List Int) (ln : Nat) (lost : List Int) (e8 : Int) (r8s0_3_0 r8s0_4_0 : Int) : Option endsW_b8T :=
  if 0 ≤ e8 ∧ e8 < (q.values.length : Int) then
   some (.s0 (if (q.values.getD ((e8).toNat) 0) < r8s0_3_0 then (q.values.getD ((e8).toNat) 0) else r8s0_3_0) (if (q.values.getD ((e8).toNat) 0) > r8s0_4_0 then (q.values.getD ((e8).toNat) 0) else r8s0_4_0))
  else none
def endsW_b8_l0 (n : Nat) (c : ConsD) (q : ProbD) (pos : List Int) (ln : Nat) (lost : List Int) (e8 : Int) : endsW_b8T → Option endsW_b8T
  | .s0 r8s0_3_0 r8s0_4_0 => endsW_b8_e0 n c q pos ln lost e8 r8s0_3_0 r8s0_4_0
def endsW_b8 (n : Nat) (c : ConsD) (q : ProbD) (pos : List Int) (ln : Nat) (lost : List Int) (e8 : Int) (s : endsW_b8T) : Option endsW_b8T := endsW_b8_l0 n c q pos ln lost e8 s
theorem endsW_b8_ok (n : Nat) (c : ConsD) (q : ProbD) (pos : List Int) (ln : Nat) (lost : List Int) (l B : Nat) (N : Yard Tryd.prog GG 6) (e8 : Int) (s : endsW_b8T) (r : endsW_b8T) (h : endsW_b8 n c q pos ln lost e8 s = some r) : TrA Tryd.prog GG (Fence.wide.inRound l) (some B) 6 N (RndQ 6 [] 0 (endsW_b8_H c q pos ln lost r)) (rgA Tryd.f60 8) (rgB Tryd.f60 8) ⟨frm 32 [(2, .ref 2 0), (4, .ref 3 0), (5, .ref 4 0), (8, .it 5), (9, .i e8)], endsW_b8_H c q pos ln lost s⟩ := by
  unfold endsW_b8 at h
  cases s with
  | s0 r8s0_3_0 r8s0_4_0 =>
    have h : endsW_b8_e0 n c q pos ln lost e8 r8s0_3_0 r8s0_4_0 = some r := h
    unfold endsW_b8_e0 at h
    refine ag sch_endsW [0, 1, 2, 3, 4, 5] H0 (frm 32 [(2, .ref 2 0), (4, .ref 3 0), (5, .ref 4 0), (6, .i e8)]) (hp_endsW_3 c q pos ln lost r8s0_3_0 r8s0_4_0) ?_
    intro N
    obtain ⟨b8_g0, h⟩ := guardSome h
    cases h
    exact rr (tg := [([(20, 3)], (tgt_endsW_4 c q pos ln lost e8 r8s0_3_0 r8s0_4_0))]) sch_endsW [0, 1, 2, 3, 4, 5] rfl (H0.g s_endsW_4 |>.g b8_g0 |>.g b8_g0 |>.t |>.t |>.g (Eq.refl (tgt_endsW_4 c q pos ln lost e8 r8s0_3_0 r8s0_4_0)))
def endsW_l0 (n : Nat) (ss : Int) (c : ConsD) (q : ProbD) (pos : List Int) (ln : Nat) (lost : List Int) : Option (Int × Int × (List Int)) :=
  if 0 ≤ ss ∧ ss < 9223372036854775808 then
   (foldO (endsW_b8 n c q pos ln lost) (symsI ss) (.s0 100 (-1))).bind fun y1 =>
    match y1 with
    | .s0 y1_0_0 y1_0_1 =>
     some (y1_0_0, y1_0_1, lost)
  else none
def endsW (n : Nat) (ss : Int) (c : ConsD) (q : ProbD) (pos : List Int) (ln : Nat) (lost : List Int) : Option (Int × Int × (List Int)) := endsW_l0 n ss c q pos ln lost
theorem endsW_ok {n : Nat} {ss : Int} {c : ConsD} {q : ProbD} {pos : List Int} {ln : Nat} {lost : List Int} {r : Int × Int × (List Int)} (h : endsW n ss c q pos ln lost = some r) : ES Tryd.prog GG 60 [.ref 0 0, .i ss] [some (.cells (consC c ++ probC q ++ [.ints pos, .msl 1 1 0 ln])), some (.ints lost)] (.tup 2 (L1 [.i r.1, .i r.2.1])) [some (.cells (consC c ++ probC q ++ [.ints pos, .msl 1 1 0 ln])), some (.ints r.2.2)] false := by
  refine ot Tryd.func60 fun B N => ?_
  unfold endsW at h
  unfold endsW_l0 at h
  obtain ⟨g0, h⟩ := guardSome h
  obtain ⟨y1, hy1, h⟩ := bindSome h
  refine gs sch_endsW [0, 1, 2, 3, 4, 5] (H0.t |>.t |>.c (symbols_it g0 (hp_endsW_0 c q pos ln lost))) (atT (bodyC Tryd.f60) 8 []) (frm 32 [(2, .ref 2 0), (4, .ref 3 0), (5, .ref 4 0), (8, .it 5)]) (hp_endsW_1 c q pos ln lost ss) ?_
  refine r0 5 8 #[9] encI 6 hy1 (endsW_b8_ok n c q pos ln lost) ?_
  cases y1 with
  | s0 y1_0_0 y1_0_1 =>
    dsimp only at h
    cases h
    exact ee (tg := [([(2, 3)], (tgt_endsW_2 c q pos ln lost y1_0_0 y1_0_1))]) sch_endsW [4, 5] [0, 1, 3, 4] (H0.g s_endsW_5 |>.t |>.t |>.g (Eq.refl (tgt_endsW_2 c q pos ln lost y1_0_0 y1_0_1)))
def t_sumW_5 : ST := .rd 0 (.rd 1 (.rd 2 (.rd 3 (.rd 4 (.rd 5 (.rd 6 (.rd 7 (.ef 8 (.rd 9 (.rd 10 (.rd 11 (.rd 12 (.rd 13 (.fin [] [1, 3, 4, 7, 8, 19, 20, 21, 90])))))) (.no)))))))))
theorem s_sumW_5 : TOk (regF Tryd.f42 5) [] t_sumW_5 := by unfold TOk; kernel_rfl
def t_sumW_6 : ST := .rd 0 (.rd 1 (.rd 2 (.rd 3 (.rd 4 (.rd 5 (.ef 6 (.ef 7 (.fin [] [1, 3, 4, 19, 20, 21, 90]) (.no)) (.no)))))))
theorem s_sumW_6 : TOk (regF Tryd.f42 6) [6] t_sumW_6 := by unfold TOk; kernel_rfl
theorem s_sumW_8 : SOk (regF Tryd.f42 8) [] (List.range 16) [] := by unfold SOk; kernel_rfl
def t_sumW_13 : ST := .rd 0 (.rd 1 (.rd 2 (.rd 3 (.rd 4 (.rd 5 (.rd 6 (.rd 7 (.ef 8 (.rd 9 (.rd 10 (.rd 11 (.ef 12 (.ef 13 (.ef 14 (.ef 15 (.fin [0, 1] [1, 3, 4, 10, 11, 12, 64, 65, 66, 90]) (.no)) (.no)) (.no)) (.ef 13 (.ef 12 (.ef 14 (.ef 15 (.fin [1, 0] [1, 3, 4, 10, 11, 12, 64, 65, 66, 90]) (.no)) (.no)) (.no)) (.no)))))) (.ef 12 (.ef 8 (.rd 9 (.rd 10 (.rd 11 (.ef 13 (.ef 14 (.ef 15 (.fin [0, 1] [1, 3, 4, 10, 11, 12, 64, 65, 66, 90]) (.no)) (.no)) (.no))))) (.ef 13 (.ef 8 (.rd 9 (.rd 10 (.rd 11 (.ef 14 (.ef 15 (.fin [0, 1] [1, 3, 4, 10, 11, 12, 64, 65, 66, 90]) (.no)) (.no))))) (.no)) (.no))) (.ef 13 (.ef 8 (.rd 9 (.rd 10 (.rd 11 (.ef 12 (.ef 14 (.ef 15 (.fin [1, 0] [1, 3, 4, 10, 11, 12, 64, 65, 66, 90]) (.no)) (.no)) (.no))))) (.ef 12 (.ef 8 (.rd 9 (.rd 10 (.rd 11 (.ef 14 (.ef 15 (.fin [1, 0] [1, 3, 4, 10, 11, 12, 64, 65, 66, 90]) (.no)) (.no))))) (.no)) (.no))) (.no)))))))))))
theorem s_sumW_13 : TOk (regF Tryd.f42 13) [12, 13, 14] t_sumW_13 := by unfold TOk; kernel_rfl
theorem s_sumW_14 : SOk (regF Tryd.f42 14) [([0, 1, 2, 3, 4, 5, 6], 7)] [] [] := by unfold SOk; kernel_rfl
theorem s_sumW_17 : SOk (regF Tryd.f42 17) [] (List.range 24) [] := by unfold SOk; kernel_rfl
def t_sumW_18 : ST := .rd 0 (.rd 1 (.rd 2 (.rd 3 (.ef 4 (.fin [] [2]) (.no)))))
theorem s_sumW_18 : TOk (regF Tryd.f42 18) [] t_sumW_18 := by unfold TOk; kernel_rfl
def sch_sumW : Sch := fun i => match i with
  | 5 => .tre [] t_sumW_5
  | 6 => .tre [6] t_sumW_6
  | 8 => .ord [] (List.range 16) []
  | 13 => .tre [12, 13, 14] t_sumW_13
  | 14 => .ord [([0, 1, 2, 3, 4, 5, 6], 7)] [] []
  | 17 => .ord [] (List.range 24) []
  | 18 => .tre [] t_sumW_18
  | _ => .no
def hp_sumW_0 (c : ConsD) (q : ProbD) (pos : List Int) (ln : Nat) (o1 : List Int) (o3_0 o4_0 : Int) : DH := [some (.cells (consC c ++ probC q ++ [.ints pos, .msl 1 1 0 ln])), some (.ints o1), some (.cells [.ref 0 0]), some (.cells [.i o3_0]), some (.cells [.i o4_0])]
def tgt_sumW_1 (y1 : Int × Int × (List Int)) (c : ConsD) (x21 : Int) (q : ProbD) (pos : List Int) (ln : Nat) (o3_0 o4_0 : Int) : St := ⟨(frm 129 [(1, .ref 2 0), (3, .ref 3 0), (4, .ref 4 0), (7, .i y1.1), (8, .i y1.2.1), (19, .ints c.cells), (20, .i (c.cells.length : Int)), (21, .i x21)]), ([some (.cells (consC c ++ probC q ++ [.ints pos, .msl 1 1 0 ln])), some (.ints y1.2.2), some (.cells [.ref 0 0]), some (.cells [.i o3_0]), some (.cells [.i o4_0])] : DH)⟩
def tgt_sumW_2 (c : ConsD) (x21 : Int) (q : ProbD) (pos : List Int) (ln : Nat) (y1 : Int × Int × (List Int)) (o3_0 o4_0 : Int) : St := ⟨(frm 129 [(1, .ref 2 0), (3, .ref 3 0), (4, .ref 4 0), (19, .ints c.cells), (20, .i (c.cells.length : Int)), (21, .i x21)]), ([some (.cells (consC c ++ probC q ++ [.ints pos, .msl 1 1 0 ln])), some (.ints y1.2.2), some (.cells [.ref 0 0]), some (.cells [.i (o3_0 + y1.1)]), some (.cells [.i (o4_0 + y1.2.1)])] : DH)⟩
def hp_sumW_3 (c : ConsD) (q : ProbD) (pos : List Int) (ln : Nat) (o1 : List Int) (o3_0 o4_0 x66 : Int) : DH := [some (.cells (consC c ++ probC q ++ [.ints pos, .msl 1 1 0 ln])), some (.ints o1), some (.cells [.ref 0 0]), some (.cells [.i o3_0]), some (.cells [.i o4_0]), some (.cells [.i (c.cells.getD ((x66).toNat) 0)])]
def tgt_sumW_4 (c : ConsD) (x66 : Int) (q : ProbD) (pos : List Int) (ln : Nat) (y1 : Int × Int × (List Int)) (o3_0 o4_0 : Int) : St := ⟨(frm 129 [(1, .ref 2 0), (3, .ref 3 0), (4, .ref 4 0), (10, .ref 5 0), (11, .ref 6 0), (12, .ref 7 0), (64, .ints c.cells), (65, .i (c.cells.length : Int)), (66, .i x66)]), ([some (.cells (consC c ++ probC q ++ [.ints pos, .msl 1 1 0 ln])), some (.ints y1.2.2), some (.cells [.ref 0 0]), some (.cells [.i o3_0]), some (.cells [.i o4_0]), some (.cells [.i (c.cells.getD ((x66).toNat) 0)]), some (.cells [.i y1.1]), some (.cells [.i y1.2.1])] : DH)⟩
def hp_sumW_5 (c : ConsD) (q : ProbD) (pos : List Int) (ln : Nat) (o1 : List Int) (o3_0 o4_0 x66 : Int) : DH := [some (.cells (consC c ++ probC q ++ [.ints pos, .msl 1 1 0 ln])), some (.ints o1), some (.cells [.ref 0 0]), some (.cells [.i o3_0]), some (.cells [.i o4_0]), some (.cells [.i (c.cells.getD ((x66).toNat) 0)]), some (.cells [.i 0])]
def hp_sumW_6 (c : ConsD) (q : ProbD) (pos : List Int) (ln : Nat) (o1 : List Int) (o3_0 o4_0 x66 : Int) : DH := [some (.cells (consC c ++ probC q ++ [.ints pos, .msl 1 1 0 ln])), some (.ints o1), some (.cells [.ref 0 0]), some (.cells [.i o3_0]), some (.cells [.i o4_0]), some (.cells [.i (c.cells.getD ((x66).toNat) 0)]), some (.cells [.i 0]), some (.cells [.i 0])]
def hp_sumW_7 (c : ConsD) (q : ProbD) (pos : List Int) (ln : Nat) (y1 : Int × Int × (List Int)) (o3_0 o4_0 x66 : Int) : DH := [some (.cells (consC c ++ probC q ++ [.ints pos, .msl 1 1 0 ln])), some (.ints y1.2.2), some (.cells [.ref 0 0]), some (.cells [.i o3_0]), some (.cells [.i o4_0]), some (.cells [.i (c.cells.getD ((x66).toNat) 0)]), some (.cells [.i y1.1]), some (.cells [.i y1.2.1])]
def hp_sumW_8 (c : ConsD) (q : ProbD) (pos : List Int) (ln : Nat) (y1 : Int × Int × (List Int)) (o3_0 o4_0 x66 : Int) : DH := [some (.cells (consC c ++ probC q ++ [.ints pos, .msl 1 1 0 ln])), some (.ints y1.2.2), some (.cells [.ref 0 0]), some (.cells [.i o3_0]), some (.cells [.i o4_0]), some (.cells [.i (c.cells.getD ((x66).toNat) 0)]), some (.cells [.i y1.1]), some (.cells [.i y1.2.1]), some (.iter ((symsI (pos.getD ((c.cells.getD ((x66).toNat) 0).toNat) 0)).map encI))]
def hp_sumW_9 (c : ConsD) (q : ProbD) (pos : List Int) (ln : Nat) (r89s0_1 : List Int) (o3_0 o4_0 x66 : Int) (y1 : Int × Int × (List Int)) : DH := [some (.cells (consC c ++ probC q ++ [.ints pos, .msl 1 1 0 ln])), some (.ints r89s0_1), some (.cells [.ref 0 0]), some (.cells [.i o3_0]), some (.cells [.i o4_0]), some (.cells [.i (c.cells.getD ((x66).toNat) 0)]), some (.cells [.i y1.1]), some (.cells [.i y1.2.1]), none]
def tgt_sumW_10 (c : ConsD) (q : ProbD) (pos : List Int) (ln : Nat) (b89_y1 : (List Int)) (o3_0 o4_0 x66 : Int) (y1 : Int × Int × (List Int)) : St := ⟨(frm 129 []), ([some (.cells (consC c ++ probC q ++ [.ints pos, .msl 1 1 0 ln])), some (.ints b89_y1), some (.cells [.ref 0 0]), some (.cells [.i o3_0]), some (.cells [.i o4_0]), some (.cells [.i (c.cells.getD ((x66).toNat) 0)]), some (.cells [.i y1.1]), some (.cells [.i y1.2.1]), none] : DH)⟩
inductive sumW_b89T where
  | s0 (r89s0_1 : List Int)
def sumW_b89_H (c : ConsD) (x66 : Int) (q : ProbD) (pos : List Int) (ln : Nat) (o3_0 o4_0 : Int) (y1 : Int × Int × (List Int)) : sumW_b89T → DH
  | .s0 r89s0_1 => [some (.cells (consC c ++ probC q ++ [.ints pos, .msl 1 1 0 ln])), some (.ints r89s0_1), some (.cells [.ref 0 0]), some (.cells [.i o3_0]), some (.cells [.i o4_0]), some (.cells [.i (c.cells.getD ((x66).toNat) 0)]), some (.cells [.i y1.1]), some (.cells [.i y1.2.1]), none]
def sumW_b89_e0 (n : Nat) (c : ConsD) (x66 : Int) (q : ProbD) (pos : List Int) (ln : Nat) (o3_0 o4_0 : Int) (y1 : Int × Int × (List Int)) (e89 : Int) (r89s0_1 : List Int) : Option sumW_b89T :=
  if (0 ≤ e89 ∧ e89 < (q.values.length : Int)) ∧ R64 (o3_0 - y1.1) ∧ R64 ((o3_0 - y1.1) + (q.values.getD ((e89).toNat) 0)) then
   bif (decide (((o3_0 - y1.1) + (q.values.getD ((e89).toNat) 0)) > c.hi)) then
    if 0 ≤ e89 ∧ e89 ≤ (IntKind.i64.bits : Int) then
     (loseW n (c.cells.getD ((x66).toNat) 0) (IntKind.i64.wrap (1 * 2 ^ (e89).toNat)) c q pos ln r89s0_1).bind fun b89_y1 =>
      some (.s0 b89_y1)
    else none
   else
    if R64 (o4_0 - y1.2.1) ∧ R64 ((o4_0 - y1.2.1) + (q.values.getD ((e89).toNat) 0)) then
     bif (decide (((o4_0 - y1.2.1) + (q.values.getD ((e89).toNat) 0)) < c.lo)) then
      if 0 ≤ e89 ∧ e89 ≤ (IntKind.i64.bits : Int) then
       (loseW n (c.cells.getD ((x66).toNat) 0) (IntKind.i64.wrap (1 * 2 ^ (e89).toNat)) c q pos ln r89s0_1).bind fun b89_y1 =>
        some (.s0 b89_y1)
      else none
     else
      some (.s0 r89s0_1)
    else none
  else none
def sumW_b89_l0 (n : Nat) (c : ConsD) (x66 : Int) (q : ProbD) (pos : List Int) (ln : Nat) (o3_0 o4_0 : Int) (y1 : Int × Int × (List Int)) (e89 : Int) : sumW_b89T → Option sumW_b89T
  | .s0 r89s0_1 => sumW_b89_e0 n c x66 q pos ln o3_0 o4_0 y1 e89 r89s0_1
def sumW_b89 (n : Nat) (c : ConsD) (x66 : Int) (q : ProbD) (pos : List Int) (ln : Nat) (o3_0 o4_0 : Int) (y1 : Int × Int × (List Int)) (e89 : Int) (s : sumW_b89T) : Option sumW_b89T := sumW_b89_l0 n c x66 q pos ln o3_0 o4_0 y1 e89 s
theorem sumW_b89_ok (n : Nat) (c : ConsD) (x66 : Int) (q : ProbD) (pos : List Int) (ln : Nat) (o3_0 o4_0 : Int) (y1 : Int × Int × (List Int)) (l B : Nat) (N : Yard Tryd.prog GG 9) (e89 : Int) (s : sumW_b89T) (r : sumW_b89T) (h : sumW_b89 n c x66 q pos ln o3_0 o4_0 y1 e89 s = some r) : TrA Tryd.prog GG (Fence.wide.inRound l) (some B) 9 N (RndQ 9 [] 0 (sumW_b89_H c x66 q pos ln o3_0 o4_0 y1 r)) (rgA Tryd.f42 89) (rgB Tryd.f42 89) ⟨frm 129 [(1, .ref 2 0), (3, .ref 3 0), (4, .ref 4 0), (10, .ref 5 0), (11, .ref 6 0), (12, .ref 7 0), (64, .ints c.cells), (65, .i (c.cells.length : Int)), (66, .i x66), (89, .it 8), (90, .i e89)], sumW_b89_H c x66 q pos ln o3_0 o4_0 y1 s⟩ := by
  unfold sumW_b89 at h
  cases s with
  | s0 r89s0_1 =>
    have h : sumW_b89_e0 n c x66 q pos ln o3_0 o4_0 y1 e89 r89s0_1 = some r := h
    unfold sumW_b89_e0 at h
    refine ag sch_sumW [0, 1, 2, 3, 4, 5, 6, 7, 8] H0 (frm 129 [(1, .ref 2 0), (3, .ref 3 0), (4, .ref 4 0), (10, .ref 5 0), (11, .ref 6 0), (12, .ref 7 0), (13, .i e89)]) (hp_sumW_9 c q pos ln r89s0_1 o3_0 o4_0 x66 y1) ?_
    intro N
    obtain ⟨⟨b89_g0, b89_g1, b89_g2⟩, h⟩ := guardSome h
    have p := H0.g b89_g0 |>.g s_sumW_17 |>.w 101 b89_g1 |>.w 103 b89_g2
    rcases bifSome h with ⟨b89_c0, h⟩ | ⟨b89_c0, h⟩
    · obtain ⟨b89_g3, h⟩ := guardSome h
      obtain ⟨b89_y1, hb89_y1, h⟩ := bindSome h
      cases h
      exact rr (tg := [([], (tgt_sumW_10 c q pos ln b89_y1 o3_0 o4_0 x66 y1))]) sch_sumW [0, 1, 2, 3, 4, 5, 6, 7, 8] rfl (p.b 109 b89_c0 |>.g s_sumW_18 |>.g b89_g3 |>.c (em (loseW_ok hb89_y1) [0, 1] (hp_sumW_9 c q pos ln r89s0_1 o3_0 o4_0 x66 y1)) |>.g (Eq.refl (tgt_sumW_10 c q pos ln b89_y1 o3_0 o4_0 x66 y1)))
    · obtain ⟨⟨b89_g3, b89_g4⟩, h⟩ := guardSome h
      have p := p.b 109 b89_c0 |>.w 113 b89_g3 |>.w 115 b89_g4
      rcases bifSome h with ⟨b89_c1, h⟩ | ⟨b89_c1, h⟩
      · obtain ⟨b89_g5, h⟩ := guardSome h
        obtain ⟨b89_y1, hb89_y1, h⟩ := bindSome h
        cases h
        exact rr (tg := [([], (tgt_sumW_10 c q pos ln b89_y1 o3_0 o4_0 x66 y1))]) sch_sumW [0, 1, 2, 3, 4, 5, 6, 7, 8] rfl (p.b 121 b89_c1 |>.g s_sumW_18 |>.g b89_g5 |>.c (em (loseW_ok hb89_y1) [0, 1] (hp_sumW_9 c q pos ln r89s0_1 o3_0 o4_0 x66 y1)) |>.g (Eq.refl (tgt_sumW_10 c q pos ln b89_y1 o3_0 o4_0 x66 y1)))
      · cases h
        exact rr sch_sumW [0, 1, 2, 3, 4, 5, 6, 7, 8] rfl (p.b 121 b89_c1)
inductive sumWPt where
  | l1 (x21 : Int) (o1 : List Int) (o3_0 o4_0 : Int)
  | l2 (x66 : Int) (o1 : List Int) (o3_0 o4_0 : Int)
def sumW_l1 (n : Nat) (self : sumWPt → Option (Bool × (List Int))) (c : ConsD) (q : ProbD) (pos : List Int) (ln : Nat) (lost : List Int) (x21 : Int) (o1 : List Int) (o3_0 o4_0 : Int) : Option (Bool × (List Int)) :=
  bif (decide (x21 < (c.cells.length : Int))) then
   if (0 ≤ x21 ∧ x21 < (c.cells.length : Int)) ∧ (0 ≤ (c.cells.getD ((x21).toNat) 0) ∧ (c.cells.getD ((x21).toNat) 0) < (pos.length : Int)) then
    (endsW n (pos.getD ((c.cells.getD ((x21).toNat) 0).toNat) 0) c q pos ln o1).bind fun y1 =>
     if R64 (o3_0 + y1.1) ∧ R64 (o4_0 + y1.2.1) ∧ R64 (x21 + 1) then
      self (.l1 (x21 + 1) y1.2.2 (o3_0 + y1.1) (o4_0 + y1.2.1))
     else none
   else none
  else
   bif (decide (o3_0 > c.hi)) then
    some (false, o1)
   else
    bif (decide (o4_0 < c.lo)) then
     some (false, o1)
    else
     self (.l2 0 o1 o3_0 o4_0)
def sumW_l2 (n : Nat) (self : sumWPt → Option (Bool × (List Int))) (c : ConsD) (q : ProbD) (pos : List Int) (ln : Nat) (lost : List Int) (x66 : Int) (o1 : List Int) (o3_0 o4_0 : Int) : Option (Bool × (List Int)) :=
  bif (decide (x66 < (c.cells.length : Int))) then
   if (0 ≤ x66 ∧ x66 < (c.cells.length : Int)) ∧ (0 ≤ (c.cells.getD ((x66).toNat) 0) ∧ (c.cells.getD ((x66).toNat) 0) < (pos.length : Int)) then
    (endsW n (pos.getD ((c.cells.getD ((x66).toNat) 0).toNat) 0) c q pos ln o1).bind fun y1 =>
     if 0 ≤ (pos.getD ((c.cells.getD ((x66).toNat) 0).toNat) 0) ∧ (pos.getD ((c.cells.getD ((x66).toNat) 0).toNat) 0) < 9223372036854775808 then
      (foldO (sumW_b89 n c x66 q pos ln o3_0 o4_0 y1) (symsI (pos.getD ((c.cells.getD ((x66).toNat) 0).toNat) 0)) (.s0 y1.2.2)).bind fun y2 =>
       match y2 with
       | .s0 y2_0_0 =>
        if R64 (x66 + 1) then
         self (.l2 (x66 + 1) y2_0_0 o3_0 o4_0)
        else none
     else none
   else none
  else
   some (true, o1)
def sumW_l0 (n : Nat) (self : sumWPt → Option (Bool × (List Int))) (c : ConsD) (q : ProbD) (pos : List Int) (ln : Nat) (lost : List Int) : Option (Bool × (List Int)) :=
  self (.l1 0 lost 0 0)
def sumW_m (c : ConsD) (q : ProbD) (pos : List Int) (ln : Nat) (lost : List Int) : Nat → sumWPt → Option (Bool × (List Int))
  | 0, _ => none
  | n + 1, .l1 x21 o1 o3_0 o4_0 => sumW_l1 n (sumW_m c q pos ln lost n) c q pos ln lost x21 o1 o3_0 o4_0
  | n + 1, .l2 x66 o1 o3_0 o4_0 => sumW_l2 n (sumW_m c q pos ln lost n) c q pos ln lost x66 o1 o3_0 o4_0
def sumW (n : Nat) (c : ConsD) (q : ProbD) (pos : List Int) (ln : Nat) (lost : List Int) : Option (Bool × (List Int)) := sumW_l0 n (sumW_m c q pos ln lost n) c q pos ln lost
/-- What the points stand for. -/
def sumW_at (n : Nat) (B : Nat) (N : Yard Tryd.prog GG 2) (c : ConsD) (q : ProbD) (pos : List Int) (ln : Nat) (lost : List Int) (r : Bool × (List Int)) : sumWPt → Prop
  | .l1 x21 o1 o3_0 o4_0 => ∀ m0 : Nat, n ≤ m0 → TrK Tryd.prog GG Fence.wide (some B) 2 N (Fin Tryd.prog Tryd.f42 2 (.bool r.1) [some (.cells (consC c ++ probC q ++ [.ints pos, .msl 1 1 0 ln])), some (.ints r.2)]) (toN m0 (atNC (bodyC Tryd.f42) 0 [])) ⟨frm 129 [(1, .ref 2 0), (3, .ref 3 0), (4, .ref 4 0), (19, .ints c.cells), (20, .i (c.cells.length : Int)), (21, .i x21)], [some (.cells (consC c ++ probC q ++ [.ints pos, .msl 1 1 0 ln])), some (.ints o1), some (.cells [.ref 0 0]), some (.cells [.i o3_0]), some (.cells [.i o4_0])]⟩
  | .l2 x66 o1 o3_0 o4_0 => ∀ m0 : Nat, n ≤ m0 → TrK Tryd.prog GG Fence.wide (some B) 2 N (Fin Tryd.prog Tryd.f42 2 (.bool r.1) [some (.cells (consC c ++ probC q ++ [.ints pos, .msl 1 1 0 ln])), some (.ints r.2)]) (toN m0 (atNC (bodyC Tryd.f42) 2 [])) ⟨frm 129 [(1, .ref 2 0), (3, .ref 3 0), (4, .ref 4 0), (64, .ints c.cells), (65, .i (c.cells.length : Int)), (66, .i x66)], [some (.cells (consC c ++ probC q ++ [.ints pos, .msl 1 1 0 ln])), some (.ints o1), some (.cells [.ref 0 0]), some (.cells [.i o3_0]), some (.cells [.i o4_0])]⟩
theorem sumW_all (B : Nat) (N : Yard Tryd.prog GG 2) (c : ConsD) (q : ProbD) (pos : List Int) (ln : Nat) (lost : List Int) : ∀ (n : Nat) (pt : sumWPt) (r : Bool × (List Int)), sumW_m c q pos ln lost n pt = some r → sumW_at n B N c q pos ln lost r pt := by
  intro n; induction n with
  | zero => intro _ _ h; cases h
  | succ n hself =>
   intro pt r h
   cases pt
   case l1 x21 o1 o3_0 o4_0 =>
    have h : sumW_l1 n (sumW_m c q pos ln lost n) c q pos ln lost x21 o1 o3_0 o4_0 = some r := h
    intro m0 hm0
    refine rd hm0 fun m0 hm0 => ?_
    unfold sumW_l1 at h
    rcases bifSome h with ⟨c0, h⟩ | ⟨c0, h⟩
    · obtain ⟨⟨g0, g1⟩, h⟩ := guardSome h
      obtain ⟨y1, hy1, h⟩ := bindSome h
      obtain ⟨⟨g2, g3, g4⟩, h⟩ := guardSome h
      exact gg (tg := [([], (tgt_sumW_1 y1 c x21 q pos ln o3_0 o4_0)), ([(6, 3)], (tgt_sumW_2 c x21 q pos ln y1 o3_0 o4_0))]) sch_sumW [0, 1, 2, 3, 4] (H0.b 22 c0 |>.g g0 |>.g s_sumW_5 |>.g g1 |>.c (em (endsW_ok hy1) [0, 1] (hp_sumW_0 c q pos ln o1 o3_0 o4_0)) |>.g (Eq.refl (tgt_sumW_1 y1 c x21 q pos ln o3_0 o4_0)) |>.g s_sumW_6 |>.w 39 g2 |>.w 42 g3 |>.t |>.t |>.g (Eq.refl (tgt_sumW_2 c x21 q pos ln y1 o3_0 o4_0)) |>.w 43 g4) (hself _ _ h m0 hm0)
    · have p := H0.b 22 c0 |>.g s_sumW_8
      rcases bifSome h with ⟨c1, h⟩ | ⟨c1, h⟩
      · cases h
        exact ee sch_sumW [2] [0, 1] (p.b 50 c1)
      · have p := p.b 50 c1
        rcases bifSome h with ⟨c2, h⟩ | ⟨c2, h⟩
        · cases h
          exact ee sch_sumW [2] [0, 1] (p.b 58 c2)
        · exact gg sch_sumW [0, 1, 2, 3, 4] (p.b 58 c2) (en n (hself _ _ h n (Nat.le_refl _)))
   case l2 x66 o1 o3_0 o4_0 =>
    have h : sumW_l2 n (sumW_m c q pos ln lost n) c q pos ln lost x66 o1 o3_0 o4_0 = some r := h
    intro m0 hm0
    refine rd hm0 fun m0 hm0 => ?_
    unfold sumW_l2 at h
    rcases bifSome h with ⟨c0, h⟩ | ⟨c0, h⟩
    · obtain ⟨⟨g0, g1⟩, h⟩ := guardSome h
      obtain ⟨y1, hy1, h⟩ := bindSome h
      obtain ⟨g2, h⟩ := guardSome h
      obtain ⟨y2, hy2, h⟩ := bindSome h
      refine gs (tg := [([], (tgt_sumW_4 c x66 q pos ln y1 o3_0 o4_0))]) sch_sumW [0, 1, 2, 3, 4, 5, 6, 7, 8] (H0.b 67 c0 |>.g g0 |>.t |>.g s_sumW_13 |>.g g1 |>.c (em (endsW_ok hy1) [0, 1] (hp_sumW_3 c q pos ln o1 o3_0 o4_0 x66)) |>.t |>.t |>.g (Eq.refl (tgt_sumW_4 c x66 q pos ln y1 o3_0 o4_0)) |>.t |>.t |>.g (Eq.refl (tgt_sumW_4 c x66 q pos ln y1 o3_0 o4_0)) |>.c (em (endsW_ok hy1) [0, 1] (hp_sumW_5 c q pos ln o1 o3_0 o4_0 x66)) |>.t |>.t |>.g (Eq.refl (tgt_sumW_4 c x66 q pos ln y1 o3_0 o4_0)) |>.c (em (endsW_ok hy1) [0, 1] (hp_sumW_6 c q pos ln o1 o3_0 o4_0 x66)) |>.t |>.t |>.g (Eq.refl (tgt_sumW_4 c x66 q pos ln y1 o3_0 o4_0)) |>.c (em (endsW_ok hy1) [0, 1] (hp_sumW_5 c q pos ln o1 o3_0 o4_0 x66)) |>.t |>.t |>.g (Eq.refl (tgt_sumW_4 c x66 q pos ln y1 o3_0 o4_0)) |>.c (em (endsW_ok hy1) [0, 1] (hp_sumW_6 c q pos ln o1 o3_0 o4_0 x66)) |>.t |>.t |>.g (Eq.refl (tgt_sumW_4 c x66 q pos ln y1 o3_0 o4_0)) |>.g s_sumW_14 |>.g g1 |>.c (symbols_it g2 (hp_sumW_7 c q pos ln y1 o3_0 o4_0 x66))) (atT (bodyC Tryd.f42) 89 [m0]) (frm 129 [(1, .ref 2 0), (3, .ref 3 0), (4, .ref 4 0), (10, .ref 5 0), (11, .ref 6 0), (12, .ref 7 0), (64, .ints c.cells), (65, .i (c.cells.length : Int)), (66, .i x66), (89, .it 8)]) (hp_sumW_8 c q pos ln y1 o3_0 o4_0 x66) ?_
      refine r0 8 89 #[90] encI 9 hy2 (sumW_b89_ok n c x66 q pos ln o3_0 o4_0 y1) ?_
      cases y2 with
      | s0 y2_0_0 =>
        dsimp only at h
        obtain ⟨g3, h⟩ := guardSome h
        exact gg sch_sumW [0, 1, 2, 3, 4] (H0.w 128 g3) (hself _ _ h m0 hm0)
    · cases h
      exact ee sch_sumW [2] [0, 1] (H0.b 67 c0)
theorem sumW_ok {n : Nat} {c : ConsD} {q : ProbD} {pos : List Int} {ln : Nat} {lost : List Int} {r : Bool × (List Int)} (h : sumW n c q pos ln lost = some r) : ES Tryd.prog GG 42 [.ref 0 0] [some (.cells (consC c ++ probC q ++ [.ints pos, .msl 1 1 0 ln])), some (.ints lost)] (.bool r.1) [some (.cells (consC c ++ probC q ++ [.ints pos, .msl 1 1 0 ln])), some (.ints r.2)] false := by
  refine ot Tryd.func42 fun B N => ?_
  have hself := sumW_all B N c q pos ln lost n
  unfold sumW at h
  unfold sumW_l0 at h
  exact gg sch_sumW [0, 1, 2, 3, 4] (H0.t |>.t) (en n (hself _ _ h n (Nat.le_refl _)))
end Go.Proofs.YtekkngkphejfcaaDoor
namespace Go.Proofs.YtekkngkphejfcaaDoor
open Go.RowKit
set_option maxRecDepth 100000
set_option maxHeartbeats 40000000
theorem s_apartF_1 : SOk (regF Tryd.f65 1) [] (List.range 18) [] := by unfold SOk; kernel_rfl
def sch_apartF : Sch := fun i => match i with
  | 1 => .ord [] (List.range 18) []
  | _ => .no
def apartF_l0 (n : Nat) (s_ t_ : Int) (c : ConsD) (q : ProbD) (pos : List Int) (ln : Nat) (lost : List Int) : Option (Bool × (List Int)) :=
  if (0 ≤ s_ ∧ s_ < (q.values.length : Int)) ∧ (0 ≤ t_ ∧ t_ < (q.values.length : Int)) ∧ R64 ((q.values.getD ((s_).toNat) 0) - (q.values.getD ((t_).toNat) 0)) ∧ R64 (0 - ((q.values.getD ((s_).toNat) 0) - (q.values.getD ((t_).toNat) 0))) then
   some ((decide ((if (0 - ((q.values.getD ((s_).toNat) 0) - (q.values.getD ((t_).toNat) 0))) > ((q.values.getD ((s_).toNat) 0) - (q.values.getD ((t_).toNat) 0)) then (0 - ((q.values.getD ((s_).toNat) 0) - (q.values.getD ((t_).toNat) 0))) else ((q.values.getD ((s_).toNat) 0) - (q.values.getD ((t_).toNat) 0))) ≥ c.lo)), lost)
  else none
def apartF (n : Nat) (s_ t_ : Int) (c : ConsD) (q : ProbD) (pos : List Int) (ln : Nat) (lost : List Int) : Option (Bool × (List Int)) := apartF_l0 n s_ t_ c q pos ln lost
theorem apartF_ok {n : Nat} {s_ t_ : Int} {c : ConsD} {q : ProbD} {pos : List Int} {ln : Nat} {lost : List Int} {r : Bool × (List Int)} (h : apartF n s_ t_ c q pos ln lost = some r) : ES Tryd.prog GG 65 [.i s_, .i t_, .ref 0 0] [some (.cells [.ref 1 0]), some (.cells (consC c ++ probC q ++ [.ints pos, .msl 2 1 0 ln])), some (.ints lost)] (.bool r.1) [some (.cells [.ref 1 0]), some (.cells (consC c ++ probC q ++ [.ints pos, .msl 2 1 0 ln])), some (.ints r.2)] false := by
  refine ot Tryd.func65 fun B N => ?_
  unfold apartF at h
  unfold apartF_l0 at h
  obtain ⟨⟨g0, g1, g2, g3⟩, h⟩ := guardSome h
  cases h
  exact ee sch_apartF [5] [0, 1, 2] (H0.g s_apartF_1 |>.g g0 |>.g g1 |>.w 23 g2 |>.w 26 g3)
theorem s_notF_1 : SOk (regF Tryd.f66 1) [] (List.range 6) [] := by unfold SOk; kernel_rfl
def sch_notF : Sch := fun i => match i with
  | 1 => .ord [] (List.range 6) []
  | _ => .no
def notF_l0 (n : Nat) (s_ t_ : Int) (c : ConsD) (q : ProbD) (pos : List Int) (ln : Nat) (lost : List Int) : Option (Bool × (List Int)) :=
  if (0 ≤ s_ ∧ s_ ≤ (IntKind.i64.bits : Int)) ∧ (0 ≤ t_ ∧ t_ ≤ (IntKind.i64.bits : Int)) then
   bif ((bits .and .i64 (IntKind.i64.wrap (1 * 2 ^ (s_).toNat)) c.set) == 0) then
    bif ((bits .and .i64 (IntKind.i64.wrap (1 * 2 ^ (t_).toNat)) c.set) == 0) then
     some (true, lost)
    else
     some (((bits .and .i64 (IntKind.i64.wrap (1 * 2 ^ (s_).toNat)) c.other) == 0), lost)
   else
    bif ((bits .and .i64 (IntKind.i64.wrap (1 * 2 ^ (t_).toNat)) c.other) == 0) then
     bif ((bits .and .i64 (IntKind.i64.wrap (1 * 2 ^ (t_).toNat)) c.set) == 0) then
      some (true, lost)
     else
      some (((bits .and .i64 (IntKind.i64.wrap (1 * 2 ^ (s_).toNat)) c.other) == 0), lost)
    else
     some (false, lost)
  else none
def notF (n : Nat) (s_ t_ : Int) (c : ConsD) (q : ProbD) (pos : List Int) (ln : Nat) (lost : List Int) : Option (Bool × (List Int)) := notF_l0 n s_ t_ c q pos ln lost
theorem notF_ok {n : Nat} {s_ t_ : Int} {c : ConsD} {q : ProbD} {pos : List Int} {ln : Nat} {lost : List Int} {r : Bool × (List Int)} (h : notF n s_ t_ c q pos ln lost = some r) : ES Tryd.prog GG 66 [.i s_, .i t_, .ref 0 0] [some (.cells [.ref 1 0]), some (.cells (consC c ++ probC q ++ [.ints pos, .msl 2 1 0 ln])), some (.ints lost)] (.bool r.1) [some (.cells [.ref 1 0]), some (.cells (consC c ++ probC q ++ [.ints pos, .msl 2 1 0 ln])), some (.ints r.2)] false := by
  refine ot Tryd.func66 fun B N => ?_
  unfold notF at h
  unfold notF_l0 at h
  obtain ⟨⟨g0, g1⟩, h⟩ := guardSome h
  have p := H0.g s_notF_1 |>.g g0 |>.g g1
  rcases bifSome h with ⟨c0, h⟩ | ⟨c0, h⟩
  · have p := p.b 19 c0
    rcases bifSome h with ⟨c1, h⟩ | ⟨c1, h⟩
    · cases h
      exact ee sch_notF [5] [0, 1, 2] (p.b 38 c1)
    · cases h
      exact ee sch_notF [5] [0, 1, 2] (p.b 38 c1)
  · have p := p.b 19 c0
    rcases bifSome h with ⟨c1, h⟩ | ⟨c1, h⟩
    · have p := p.b 28 c1
      rcases bifSome h with ⟨c2, h⟩ | ⟨c2, h⟩
      · cases h
        exact ee sch_notF [5] [0, 1, 2] (p.b 38 c2)
      · cases h
        exact ee sch_notF [5] [0, 1, 2] (p.b 38 c2)
    · cases h
      exact ee sch_notF [5] [0, 1, 2] (p.b 28 c1)
theorem s_pairA_1 : SOk (regF Tryd.f64 1) [] (List.range 16) [] := by unfold SOk; kernel_rfl
theorem s_pairA_2 : SOk (regF Tryd.f64 2) [([0, 1, 2, 3, 4, 5, 6, 7, 8, 9, 10, 11, 12, 13], 14)] [15] [16] := by unfold SOk; kernel_rfl
theorem s_pairA_9 : SOk (regF Tryd.f64 9) [] [0, 1, 2, 3] [4] := by unfold SOk; kernel_rfl
theorem s_pairA_10 : SOk (regF Tryd.f64 10) [] [0, 1, 2, 3] [4] := by unfold SOk; kernel_rfl
def sch_pairA : Sch := fun i => match i with
  | 1 => .ord [] (List.range 16) []
  | 2 => .ord [([0, 1, 2, 3, 4, 5, 6, 7, 8, 9, 10, 11, 12, 13], 14)] [15] [16]
  | 9 => .ord [] [0, 1, 2, 3] [4]
  | 10 => .ord [] [0, 1, 2, 3] [4]
  | _ => .no
def hp_pairA_0 (c : ConsD) (q : ProbD) (pos : List Int) (ln : Nat) (lost : List Int) : DH := [some (.cells [.ref 1 0]), some (.cells (consC c ++ probC q ++ [.ints pos, .msl 2 1 0 ln])), some (.ints lost), some (.cells [.fn 65 1 (L1 [.ref 0 0])]), some (.cells [.i (pos.getD ((c.cells.getD 1 0).toNat) 0)]), some (.cells [.i 0]), some (.cells [.i 0])]
def hp_pairA_1 (c : ConsD) (q : ProbD) (pos : List Int) (ln : Nat) (lost : List Int) : DH := [some (.cells [.ref 1 0]), some (.cells (consC c ++ probC q ++ [.ints pos, .msl 2 1 0 ln])), some (.ints lost), some (.cells [.fn 65 1 (L1 [.ref 0 0])]), some (.cells [.i (pos.getD ((c.cells.getD 1 0).toNat) 0)]), some (.cells [.i 0]), some (.cells [.i 0]), some (.iter ((symsI (pos.getD ((c.cells.getD 0 0).toNat) 0)).map encI))]
def hp_pairA_2 (c : ConsD) (q : ProbD) (pos : List Int) (ln : Nat) (y1_0_0 : List Int) (y1_0_1 y1_0_2 : Int) : DH := [some (.cells [.ref 1 0]), some (.cells (consC c ++ probC q ++ [.ints pos, .msl 2 1 0 ln])), some (.ints y1_0_0), some (.cells [.fn 65 1 (L1 [.ref 0 0])]), some (.cells [.i (pos.getD ((c.cells.getD 1 0).toNat) 0)]), some (.cells [.i y1_0_1]), some (.cells [.i y1_0_2]), none]
def hp_pairA_3 (c : ConsD) (q : ProbD) (pos : List Int) (ln : Nat) (y2 : (List Int)) (y1_0_1 y1_0_2 : Int) : DH := [some (.cells [.ref 1 0]), some (.cells (consC c ++ probC q ++ [.ints pos, .msl 2 1 0 ln])), some (.ints y2), some (.cells [.fn 65 1 (L1 [.ref 0 0])]), some (.cells [.i (pos.getD ((c.cells.getD 1 0).toNat) 0)]), some (.cells [.i y1_0_1]), some (.cells [.i y1_0_2]), none]
def hp_pairA_4 (c : ConsD) (q : ProbD) (pos : List Int) (ln : Nat) (r42s0_2 : List Int) (r42s0_5_0 r42s0_6_0 e42 : Int) : DH := [some (.cells [.ref 1 0]), some (.cells (consC c ++ probC q ++ [.ints pos, .msl 2 1 0 ln])), some (.ints r42s0_2), some (.cells [.fn 65 1 (L1 [.ref 0 0])]), some (.cells [.i (pos.getD ((c.cells.getD 1 0).toNat) 0)]), some (.cells [.i r42s0_5_0]), some (.cells [.i r42s0_6_0]), none, some (.cells [.i e42])]
def hp_pairA_5 (c : ConsD) (q : ProbD) (pos : List Int) (ln : Nat) (r42s0_2 : List Int) (r42s0_5_0 r42s0_6_0 e42 : Int) : DH := [some (.cells [.ref 1 0]), some (.cells (consC c ++ probC q ++ [.ints pos, .msl 2 1 0 ln])), some (.ints r42s0_2), some (.cells [.fn 65 1 (L1 [.ref 0 0])]), some (.cells [.i (pos.getD ((c.cells.getD 1 0).toNat) 0)]), some (.cells [.i r42s0_5_0]), some (.cells [.i r42s0_6_0]), none, some (.cells [.i e42]), some (.iter ((symsI (pos.getD ((c.cells.getD 1 0).toNat) 0)).map encI))]
def hp_pairA_6 (c : ConsD) (q : ProbD) (pos : List Int) (ln : Nat) (r45s0_2 : List Int) (r45s0_5_0 r45s0_6_0 e42 : Int) : DH := [some (.cells [.ref 1 0]), some (.cells (consC c ++ probC q ++ [.ints pos, .msl 2 1 0 ln])), some (.ints r45s0_2), some (.cells [.fn 65 1 (L1 [.ref 0 0])]), some (.cells [.i (pos.getD ((c.cells.getD 1 0).toNat) 0)]), some (.cells [.i r45s0_5_0]), some (.cells [.i r45s0_6_0]), none, some (.cells [.i e42]), none]
inductive pairA_b42_b45T where
  | s0 (r45s0_2 : List Int) (r45s0_5_0 r45s0_6_0 : Int)
def pairA_b42_b45_H (c : ConsD) (q : ProbD) (pos : List Int) (ln : Nat) (e42 : Int) : pairA_b42_b45T → DH
  | .s0 r45s0_2 r45s0_5_0 r45s0_6_0 => [some (.cells [.ref 1 0]), some (.cells (consC c ++ probC q ++ [.ints pos, .msl 2 1 0 ln])), some (.ints r45s0_2), some (.cells [.fn 65 1 (L1 [.ref 0 0])]), some (.cells [.i (pos.getD ((c.cells.getD 1 0).toNat) 0)]), some (.cells [.i r45s0_5_0]), some (.cells [.i r45s0_6_0]), none, some (.cells [.i e42]), none]
def pairA_b42_b45_e0 (n : Nat) (c : ConsD) (q : ProbD) (pos : List Int) (ln : Nat) (e42 e45 : Int) (r45s0_2 : List Int) (r45s0_5_0 r45s0_6_0 : Int) : Option pairA_b42_b45T :=
  (apartF n e42 e45 c q pos ln r45s0_2).bind fun b45_y1 =>
   bif b45_y1.1 then
    if (0 ≤ e42 ∧ e42 ≤ (IntKind.i64.bits : Int)) ∧ (0 ≤ e45 ∧ e45 ≤ (IntKind.i64.bits : Int)) then
     some (.s0 b45_y1.2 (bits .or .i64 r45s0_5_0 (IntKind.i64.wrap (1 * 2 ^ (e42).toNat))) (bits .or .i64 r45s0_6_0 (IntKind.i64.wrap (1 * 2 ^ (e45).toNat))))
    else none
   else
    some (.s0 b45_y1.2 r45s0_5_0 r45s0_6_0)
def pairA_b42_b45_l0 (n : Nat) (c : ConsD) (q : ProbD) (pos : List Int) (ln : Nat) (e42 e45 : Int) : pairA_b42_b45T → Option pairA_b42_b45T
  | .s0 r45s0_2 r45s0_5_0 r45s0_6_0 => pairA_b42_b45_e0 n c q pos ln e42 e45 r45s0_2 r45s0_5_0 r45s0_6_0
def pairA_b42_b45 (n : Nat) (c : ConsD) (q : ProbD) (pos : List Int) (ln : Nat) (e42 e45 : Int) (s : pairA_b42_b45T) : Option pairA_b42_b45T := pairA_b42_b45_l0 n c q pos ln e42 e45 s
theorem pairA_b42_b45_ok (n : Nat) (c : ConsD) (q : ProbD) (pos : List Int) (ln : Nat) (e42 : Int) (l B : Nat) (N : Yard Tryd.prog GG 10) (e45 : Int) (s : pairA_b42_b45T) (r : pairA_b42_b45T) (h : pairA_b42_b45 n c q pos ln e42 e45 s = some r) : TrA Tryd.prog GG (Fence.wide.inRound l) (some B) 10 N (RndQ 10 [] 0 (pairA_b42_b45_H c q pos ln e42 r)) (rgA Tryd.f64 45) (rgB Tryd.f64 45) ⟨frm 69 [(3, .ref 3 0), (9, .ref 5 0), (10, .ref 6 0), (11, .ref 8 0), (45, .it 9), (46, .i e45)], pairA_b42_b45_H c q pos ln e42 s⟩ := by
  unfold pairA_b42_b45 at h
  cases s with
  | s0 r45s0_2 r45s0_5_0 r45s0_6_0 =>
    have h : pairA_b42_b45_e0 n c q pos ln e42 e45 r45s0_2 r45s0_5_0 r45s0_6_0 = some r := h
    unfold pairA_b42_b45_e0 at h
    refine ag sch_pairA [0, 1, 2, 3, 4, 5, 6, 7, 8, 9] H0 (frm 69 [(3, .ref 3 0), (9, .ref 5 0), (10, .ref 6 0), (11, .ref 8 0), (12, .i e45)]) (hp_pairA_6 c q pos ln r45s0_2 r45s0_5_0 r45s0_6_0 e42) ?_
    intro N
    obtain ⟨b45_y1, hb45_y1, h⟩ := bindSome h
    have p := H0.c (em (apartF_ok hb45_y1) [0, 1, 2] (hp_pairA_6 c q pos ln r45s0_2 r45s0_5_0 r45s0_6_0 e42))
    rcases bifSome h with ⟨b45_c0, h⟩ | ⟨b45_c0, h⟩
    · obtain ⟨⟨b45_g0, b45_g1⟩, h⟩ := guardSome h
      cases h
      exact rr sch_pairA [0, 1, 2, 3, 4, 5, 6, 7, 8, 9] rfl (p.b 50 b45_c0 |>.g s_pairA_9 |>.g b45_g0 |>.t |>.g s_pairA_10 |>.g b45_g1 |>.t)
    · cases h
      exact rr sch_pairA [0, 1, 2, 3, 4, 5, 6, 7, 8, 9] rfl (p.b 50 b45_c0)
inductive pairA_b42T where
  | s0 (r42s0_2 : List Int) (r42s0_5_0 r42s0_6_0 : Int)
def pairA_b42_H (c : ConsD) (q : ProbD) (pos : List Int) (ln : Nat) : pairA_b42T → DH
  | .s0 r42s0_2 r42s0_5_0 r42s0_6_0 => [some (.cells [.ref 1 0]), some (.cells (consC c ++ probC q ++ [.ints pos, .msl 2 1 0 ln])), some (.ints r42s0_2), some (.cells [.fn 65 1 (L1 [.ref 0 0])]), some (.cells [.i (pos.getD ((c.cells.getD 1 0).toNat) 0)]), some (.cells [.i r42s0_5_0]), some (.cells [.i r42s0_6_0]), none]
def pairA_b42_e0 (n : Nat) (c : ConsD) (q : ProbD) (pos : List Int) (ln : Nat) (e42 : Int) (r42s0_2 : List Int) (r42s0_5_0 r42s0_6_0 : Int) : Option pairA_b42T :=
  if 0 ≤ (pos.getD ((c.cells.getD 1 0).toNat) 0) ∧ (pos.getD ((c.cells.getD 1 0).toNat) 0) < 9223372036854775808 then
   (foldO (pairA_b42_b45 n c q pos ln e42) (symsI (pos.getD ((c.cells.getD 1 0).toNat) 0)) (.s0 r42s0_2 r42s0_5_0 r42s0_6_0)).bind fun b42_y1 =>
    match b42_y1 with
    | .s0 b42_y1_0_0 b42_y1_0_1 b42_y1_0_2 =>
     some (.s0 b42_y1_0_0 b42_y1_0_1 b42_y1_0_2)
  else none
def pairA_b42_l0 (n : Nat) (c : ConsD) (q : ProbD) (pos : List Int) (ln : Nat) (e42 : Int) : pairA_b42T → Option pairA_b42T
  | .s0 r42s0_2 r42s0_5_0 r42s0_6_0 => pairA_b42_e0 n c q pos ln e42 r42s0_2 r42s0_5_0 r42s0_6_0
def pairA_b42 (n : Nat) (c : ConsD) (q : ProbD) (pos : List Int) (ln : Nat) (e42 : Int) (s : pairA_b42T) : Option pairA_b42T := pairA_b42_l0 n c q pos ln e42 s
theorem pairA_b42_ok (n : Nat) (c : ConsD) (q : ProbD) (pos : List Int) (ln : Nat) (l B : Nat) (N : Yard Tryd.prog GG 8) (e42 : Int) (s : pairA_b42T) (r : pairA_b42T) (h : pairA_b42 n c q pos ln e42 s = some r) : TrA Tryd.prog GG (Fence.wide.inRound l) (some B) 8 N (RndQ 8 [] 0 (pairA_b42_H c q pos ln r)) (rgA Tryd.f64 42) (rgB Tryd.f64 42) ⟨frm 69 [(0, .ref 1 0), (3, .ref 3 0), (5, .i (c.cells.getD 0 0)), (6, .i (c.cells.getD 1 0)), (8, .ref 4 0), (9, .ref 5 0), (10, .ref 6 0), (42, .it 7), (43, .i e42)], pairA_b42_H c q pos ln s⟩ := by
  unfold pairA_b42 at h
  cases s with
  | s0 r42s0_2 r42s0_5_0 r42s0_6_0 =>
    have h : pairA_b42_e0 n c q pos ln e42 r42s0_2 r42s0_5_0 r42s0_6_0 = some r := h
    unfold pairA_b42_e0 at h
    refine ag sch_pairA [0, 1, 2, 3, 4, 5, 6, 7, 8] (H0.t) (frm 69 [(3, .ref 3 0), (8, .ref 4 0), (9, .ref 5 0), (10, .ref 6 0), (11, .ref 8 0)]) (hp_pairA_4 c q pos ln r42s0_2 r42s0_5_0 r42s0_6_0 e42) ?_
    intro N
    obtain ⟨b42_g0, h⟩ := guardSome h
    obtain ⟨b42_y1, hb42_y1, h⟩ := bindSome h
    refine gs sch_pairA [0, 1, 2, 3, 4, 5, 6, 7, 8, 9] (H0.c (symbols_it b42_g0 (hp_pairA_4 c q pos ln r42s0_2 r42s0_5_0 r42s0_6_0 e42))) (atT (rgB Tryd.f64 42) 45 []) (frm 69 [(3, .ref 3 0), (9, .ref 5 0), (10, .ref 6 0), (11, .ref 8 0), (45, .it 9)]) (hp_pairA_5 c q pos ln r42s0_2 r42s0_5_0 r42s0_6_0 e42) ?_
    refine r0 9 45 #[46] encI 10 hb42_y1 (pairA_b42_b45_ok n c q pos ln e42) ?_
    cases b42_y1 with
    | s0 b42_y1_0_0 b42_y1_0_1 b42_y1_0_2 =>
      dsimp only at h
      cases h
      exact rr sch_pairA [0, 1, 2, 3, 4, 5, 6, 7] rfl H0
def pairA_l0 (n : Nat) (c : ConsD) (q : ProbD) (pos : List Int) (ln : Nat) (lost : List Int) : Option (Bool × (List Int)) :=
  if ((0 : Int) ≤ 0 ∧ 0 < (c.cells.length : Int)) ∧ ((0 : Int) ≤ 1 ∧ 1 < (c.cells.length : Int)) ∧ (0 ≤ (c.cells.getD 0 0) ∧ (c.cells.getD 0 0) < (pos.length : Int)) ∧ (0 ≤ (c.cells.getD 1 0) ∧ (c.cells.getD 1 0) < (pos.length : Int)) ∧ (0 ≤ (pos.getD ((c.cells.getD 0 0).toNat) 0) ∧ (pos.getD ((c.cells.getD 0 0).toNat) 0) < 9223372036854775808) then
   (foldO (pairA_b42 n c q pos ln) (symsI (pos.getD ((c.cells.getD 0 0).toNat) 0)) (.s0 lost 0 0)).bind fun y1 =>
    match y1 with
    | .s0 y1_0_0 y1_0_1 y1_0_2 =>
     (loseW n (c.cells.getD 0 0) (bits .xor .i64 (-1) y1_0_1) c q pos ln y1_0_0).bind fun y2 =>
      (loseW n (c.cells.getD 1 0) (bits .xor .i64 (-1) y1_0_2) c q pos ln y2).bind fun y3 =>
       some (true, y3)
  else none
def pairA (n : Nat) (c : ConsD) (q : ProbD) (pos : List Int) (ln : Nat) (lost : List Int) : Option (Bool × (List Int)) := pairA_l0 n c q pos ln lost
theorem pairA_ok {n : Nat} {c : ConsD} {q : ProbD} {pos : List Int} {ln : Nat} {lost : List Int} {r : Bool × (List Int)} (h : pairA n c q pos ln lost = some r) : ES Tryd.prog GG 64 [.ref 1 0, .fn 65 1 (L1 [.ref 0 0])] [some (.cells [.ref 1 0]), some (.cells (consC c ++ probC q ++ [.ints pos, .msl 2 1 0 ln])), some (.ints lost)] (.bool r.1) [some (.cells [.ref 1 0]), some (.cells (consC c ++ probC q ++ [.ints pos, .msl 2 1 0 ln])), some (.ints r.2)] false := by
  refine ot Tryd.func64 fun B N => ?_
  unfold pairA at h
  unfold pairA_l0 at h
  obtain ⟨⟨g0, g1, g2, g3, g4⟩, h⟩ := guardSome h
  obtain ⟨y1, hy1, h⟩ := bindSome h
  refine gs sch_pairA [0, 1, 2, 3, 4, 5, 6, 7] (H0.g s_pairA_1 |>.g g0 |>.g g1 |>.g s_pairA_2 |>.g g2 |>.g g3 |>.t |>.c (symbols_it g4 (hp_pairA_0 c q pos ln lost))) (atT (bodyC Tryd.f64) 42 []) (frm 69 [(0, .ref 1 0), (3, .ref 3 0), (5, .i (c.cells.getD 0 0)), (6, .i (c.cells.getD 1 0)), (8, .ref 4 0), (9, .ref 5 0), (10, .ref 6 0), (42, .it 7)]) (hp_pairA_1 c q pos ln lost) ?_
  refine r0 7 42 #[43] encI 8 hy1 (pairA_b42_ok n c q pos ln) ?_
  cases y1 with
  | s0 y1_0_0 y1_0_1 y1_0_2 =>
    dsimp only at h
    obtain ⟨y2, hy2, h⟩ := bindSome h
    obtain ⟨y3, hy3, h⟩ := bindSome h
    cases h
    exact ee sch_pairA [4] [0, 1, 2] (H0.c (em (loseW_ok hy2) [1, 2] (hp_pairA_2 c q pos ln y1_0_0 y1_0_1 y1_0_2)) |>.c (em (loseW_ok hy3) [1, 2] (hp_pairA_3 c q pos ln y2 y1_0_1 y1_0_2)))
theorem s_pairN_1 : SOk (regF Tryd.f64 1) [] (List.range 16) [] := by unfold SOk; kernel_rfl
theorem s_pairN_2 : SOk (regF Tryd.f64 2) [([0, 1, 2, 3, 4, 5, 6, 7, 8, 9, 10, 11, 12, 13], 14)] [15] [16] := by unfold SOk; kernel_rfl
theorem s_pairN_9 : SOk (regF Tryd.f64 9) [] [0, 1, 2, 3] [4] := by unfold SOk; kernel_rfl
theorem s_pairN_10 : SOk (regF Tryd.f64 10) [] [0, 1, 2, 3] [4] := by unfold SOk; kernel_rfl
def sch_pairN : Sch := fun i => match i with
  | 1 => .ord [] (List.range 16) []
  | 2 => .ord [([0, 1, 2, 3, 4, 5, 6, 7, 8, 9, 10, 11, 12, 13], 14)] [15] [16]
  | 9 => .ord [] [0, 1, 2, 3] [4]
  | 10 => .ord [] [0, 1, 2, 3] [4]
  | _ => .no
def hp_pairN_0 (c : ConsD) (q : ProbD) (pos : List Int) (ln : Nat) (lost : List Int) : DH := [some (.cells [.ref 1 0]), some (.cells (consC c ++ probC q ++ [.ints pos, .msl 2 1 0 ln])), some (.ints lost), some (.cells [.fn 66 1 (L1 [.ref 0 0])]), some (.cells [.i (pos.getD ((c.cells.getD 1 0).toNat) 0)]), some (.cells [.i 0]), some (.cells [.i 0])]
def hp_pairN_1 (c : ConsD) (q : ProbD) (pos : List Int) (ln : Nat) (lost : List Int) : DH := [some (.cells [.ref 1 0]), some (.cells (consC c ++ probC q ++ [.ints pos, .msl 2 1 0 ln])), some (.ints lost), some (.cells [.fn 66 1 (L1 [.ref 0 0])]), some (.cells [.i (pos.getD ((c.cells.getD 1 0).toNat) 0)]), some (.cells [.i 0]), some (.cells [.i 0]), some (.iter ((symsI (pos.getD ((c.cells.getD 0 0).toNat) 0)).map encI))]
def hp_pairN_2 (c : ConsD) (q : ProbD) (pos : List Int) (ln : Nat) (y1_0_0 : List Int) (y1_0_1 y1_0_2 : Int) : DH := [some (.cells [.ref 1 0]), some (.cells (consC c ++ probC q ++ [.ints pos, .msl 2 1 0 ln])), some (.ints y1_0_0), some (.cells [.fn 66 1 (L1 [.ref 0 0])]), some (.cells [.i (pos.getD ((c.cells.getD 1 0).toNat) 0)]), some (.cells [.i y1_0_1]), some (.cells [.i y1_0_2]), none]
def hp_pairN_3 (c : ConsD) (q : ProbD) (pos : List Int) (ln : Nat) (y2 : (List Int)) (y1_0_1 y1_0_2 : Int) : DH := [some (.cells [.ref 1 0]), some (.cells (consC c ++ probC q ++ [.ints pos, .msl 2 1 0 ln])), some (.ints y2), some (.cells [.fn 66 1 (L1 [.ref 0 0])]), some (.cells [.i (pos.getD ((c.cells.getD 1 0).toNat) 0)]), some (.cells [.i y1_0_1]), some (.cells [.i y1_0_2]), none]
def hp_pairN_4 (c : ConsD) (q : ProbD) (pos : List Int) (ln : Nat) (r42s0_2 : List Int) (r42s0_5_0 r42s0_6_0 e42 : Int) : DH := [some (.cells [.ref 1 0]), some (.cells (consC c ++ probC q ++ [.ints pos, .msl 2 1 0 ln])), some (.ints r42s0_2), some (.cells [.fn 66 1 (L1 [.ref 0 0])]), some (.cells [.i (pos.getD ((c.cells.getD 1 0).toNat) 0)]), some (.cells [.i r42s0_5_0]), some (.cells [.i r42s0_6_0]), none, some (.cells [.i e42])]
def hp_pairN_5 (c : ConsD) (q : ProbD) (pos : List Int) (ln : Nat) (r42s0_2 : List Int) (r42s0_5_0 r42s0_6_0 e42 : Int) : DH := [some (.cells [.ref 1 0]), some (.cells (consC c ++ probC q ++ [.ints pos, .msl 2 1 0 ln])), some (.ints r42s0_2), some (.cells [.fn 66 1 (L1 [.ref 0 0])]), some (.cells [.i (pos.getD ((c.cells.getD 1 0).toNat) 0)]), some (.cells [.i r42s0_5_0]), some (.cells [.i r42s0_6_0]), none, some (.cells [.i e42]), some (.iter ((symsI (pos.getD ((c.cells.getD 1 0).toNat) 0)).map encI))]
def hp_pairN_6 (c : ConsD) (q : ProbD) (pos : List Int) (ln : Nat) (r45s0_2 : List Int) (r45s0_5_0 r45s0_6_0 e42 : Int) : DH := [some (.cells [.ref 1 0]), some (.cells (consC c ++ probC q ++ [.ints pos, .msl 2 1 0 ln])), some (.ints r45s0_2), some (.cells [.fn 66 1 (L1 [.ref 0 0])]), some (.cells [.i (pos.getD ((c.cells.getD 1 0).toNat) 0)]), some (.cells [.i r45s0_5_0]), some (.cells [.i r45s0_6_0]), none, some (.cells [.i e42]), none]
inductive pairN_b42_b45T where
  | s0 (r45s0_2 : List Int) (r45s0_5_0 r45s0_6_0 : Int)
def pairN_b42_b45_H (c : ConsD) (q : ProbD) (pos : List Int) (ln : Nat) (e42 : Int) : pairN_b42_b45T → DH
  | .s0 r45s0_2 r45s0_5_0 r45s0_6_0 => [some (.cells [.ref 1 0]), some (.cells (consC c ++ probC q ++ [.ints pos, .msl 2 1 0 ln])), some (.ints r45s0_2), some (.cells [.fn 66 1 (L1 [.ref 0 0])]), some (.cells [.i (pos.getD ((c.cells.getD 1 0).toNat) 0)]), some (.cells [.i r45s0_5_0]), some (.cells [.i r45s0_6_0]), none, some (.cells [.i e42]), none]
def pairN_b42_b45_e0 (n : Nat) (c : ConsD) (q : ProbD) (pos : List Int) (ln : Nat) (e42 e45 : Int) (r45s0_2 : List Int) (r45s0_5_0 r45s0_6_0 : Int) : Option pairN_b42_b45T :=
  (notF n e42 e45 c q pos ln r45s0_2).bind fun b45_y1 =>
   bif b45_y1.1 then
    if (0 ≤ e42 ∧ e42 ≤ (IntKind.i64.bits : Int)) ∧ (0 ≤ e45 ∧ e45 ≤ (IntKind.i64.bits : Int)) then
     some (.s0 b45_y1.2 (bits .or .i64 r45s0_5_0 (IntKind.i64.wrap (1 * 2 ^ (e42).toNat))) (bits .or .i64 r45s0_6_0 (IntKind.i64.wrap (1 * 2 ^ (e45).toNat))))
    else none
   else
    some (.s0 b45_y1.2 r45s0_5_0 r45s0_6_0)
def pairN_b42_b45_l0 (n : Nat) (c : ConsD) (q : ProbD) (pos : List Int) (ln : Nat) (e42 e45 : Int) : pairN_b42_b45T → Option pairN_b42_b45T
  | .s0 r45s0_2 r45s0_5_0 r45s0_6_0 => pairN_b42_b45_e0 n c q pos ln e42 e45 r45s0_2 r45s0_5_0 r45s0_6_0
def pairN_b42_b45 (n : Nat) (c : ConsD) (q : ProbD) (pos : List Int) (ln : Nat) (e42 e45 : Int) (s : pairN_b42_b45T) : Option pairN_b42_b45T := pairN_b42_b45_l0 n c q pos ln e42 e45 s
theorem pairN_b42_b45_ok (n : Nat) (c : ConsD) (q : ProbD) (pos : List Int) (ln : Nat) (e42 : Int) (l B : Nat) (N : Yard Tryd.prog GG 10) (e45 : Int) (s : pairN_b42_b45T) (r : pairN_b42_b45T) (h : pairN_b42_b45 n c q pos ln e42 e45 s = some r) : TrA Tryd.prog GG (Fence.wide.inRound l) (some B) 10 N (RndQ 10 [] 0 (pairN_b42_b45_H c q pos ln e42 r)) (rgA Tryd.f64 45) (rgB Tryd.f64 45) ⟨frm 69 [(3, .ref 3 0), (9, .ref 5 0), (10, .ref 6 0), (11, .ref 8 0), (45, .it 9), (46, .i e45)], pairN_b42_b45_H c q pos ln e42 s⟩ := by
  unfold pairN_b42_b45 at h
  cases s with
  | s0 r45s0_2 r45s0_5_0 r45s0_6_0 =>
    have h : pairN_b42_b45_e0 n c q pos ln e42 e45 r45s0_2 r45s0_5_0 r45s0_6_0 = some r := h
    unfold pairN_b42_b45_e0 at h
    refine ag sch_pairN [0, 1, 2, 3, 4, 5, 6, 7, 8, 9] H0 (frm 69 [(3, .ref 3 0), (9, .ref 5 0), (10, .ref 6 0), (11, .ref 8 0), (12, .i e45)]) (hp_pairN_6 c q pos ln r45s0_2 r45s0_5_0 r45s0_6_0 e42) ?_
    intro N
    obtain ⟨b45_y1, hb45_y1, h⟩ := bindSome h
    have p := H0.c (em (notF_ok hb45_y1) [0, 1, 2] (hp_pairN_6 c q pos ln r45s0_2 r45s0_5_0 r45s0_6_0 e42))
    rcases bifSome h with ⟨b45_c0, h⟩ | ⟨b45_c0, h⟩
    · obtain ⟨⟨b45_g0, b45_g1⟩, h⟩ := guardSome h
      cases h
      exact rr sch_pairN [0, 1, 2, 3, 4, 5, 6, 7, 8, 9] rfl (p.b 50 b45_c0 |>.g s_pairN_9 |>.g b45_g0 |>.t |>.g s_pairN_10 |>.g b45_g1 |>.t)
    · cases h
      exact rr sch_pairN [0, 1, 2, 3, 4, 5, 6, 7, 8, 9] rfl (p.b 50 b45_c0)
inductive pairN_b42T where
  | s0 (r42s0_2 : List Int) (r42s0_5_0 r42s0_6_0 : Int)
def pairN_b42_H (c : ConsD) (q : ProbD) (pos : List Int) (ln : Nat) : pairN_b42T → DH
  | .s0 r42s0_2 r42s0_5_0 r42s0_6_0 => [some (.cells [.ref 1 0]), some (.cells (consC c ++ probC q ++ [.ints pos, .msl 2 1 0 ln])), some (.ints r42s0_2), some (.cells [.fn 66 1 (L1 [.ref 0 0])]), some (.cells [.i (pos.getD ((c.cells.getD 1 0).toNat) 0)]), some (.cells [.i r42s0_5_0]), some (.cells [.i r42s0_6_0]), none]
def pairN_b42_e0 (n : Nat) (c : ConsD) (q : ProbD) (pos : List Int) (ln : Nat) (e42 : Int) (r42s0_2 : List Int) (r42s0_5_0 r42s0_6_0 : Int) : Option pairN_b42T :=
  if 0 ≤ (pos.getD ((c.cells.getD 1 0).toNat) 0) ∧ (pos.getD ((c.cells.getD 1 0).toNat) 0) < 9223372036854775808 then
   (foldO (pairN_b42_b45 n c q pos ln e42) (symsI (pos.getD ((c.cells.getD 1 0).toNat) 0)) (.s0 r42s0_2 r42s0_5_0 r42s0_6_0)).bind fun b42_y1 =>
    match b42_y1 with
    | .s0 b42_y1_0_0 b42_y1_0_1 b42_y1_0_2 =>
     some (.s0 b42_y1_0_0 b42_y1_0_1 b42_y1_0_2)
  else none
def pairN_b42_l0 (n : Nat) (c : ConsD) (q : ProbD) (pos : List Int) (ln : Nat) (e42 : Int) : pairN_b42T → Option pairN_b42T
  | .s0 r42s0_2 r42s0_5_0 r42s0_6_0 => pairN_b42_e0 n c q pos ln e42 r42s0_2 r42s0_5_0 r42s0_6_0
def pairN_b42 (n : Nat) (c : ConsD) (q : ProbD) (pos : List Int) (ln : Nat) (e42 : Int) (s : pairN_b42T) : Option pairN_b42T := pairN_b42_l0 n c q pos ln e42 s
theorem pairN_b42_ok (n : Nat) (c : ConsD) (q : ProbD) (pos : List Int) (ln : Nat) (l B : Nat) (N : Yard Tryd.prog GG 8) (e42 : Int) (s : pairN_b42T) (r : pairN_b42T) (h : pairN_b42 n c q pos ln e42 s = some r) : TrA Tryd.prog GG (Fence.wide.inRound l) (some B) 8 N (RndQ 8 [] 0 (pairN_b42_H c q pos ln r)) (rgA Tryd.f64 42) (rgB Tryd.f64 42) ⟨frm 69 [(0, .ref 1 0), (3, .ref 3 0), (5, .i (c.cells.getD 0 0)), (6, .i (c.cells.getD 1 0)), (8, .ref 4 0), (9, .ref 5 0), (10, .ref 6 0), (42, .it 7), (43, .i e42)], pairN_b42_H c q pos ln s⟩ := by
  unfold pairN_b42 at h
  cases s with
  | s0 r42s0_2 r42s0_5_0 r42s0_6_0 =>
    have h : pairN_b42_e0 n c q pos ln e42 r42s0_2 r42s0_5_0 r42s0_6_0 = some r := h
    unfold pairN_b42_e0 at h
    refine ag sch_pairN [0, 1, 2, 3, 4, 5, 6, 7, 8] (H0.t) (frm 69 [(3, .ref 3 0), (8, .ref 4 0), (9, .ref 5 0), (10, .ref 6 0), (11, .ref 8 0)]) (hp_pairN_4 c q pos ln r42s0_2 r42s0_5_0 r42s0_6_0 e42) ?_
    intro N
    obtain ⟨b42_g0, h⟩ := guardSome h
    obtain ⟨b42_y1, hb42_y1, h⟩ := bindSome h
    refine gs sch_pairN [0, 1, 2, 3, 4, 5, 6, 7, 8, 9] (H0.c (symbols_it b42_g0 (hp_pairN_4 c q pos ln r42s0_2 r42s0_5_0 r42s0_6_0 e42))) (atT (rgB Tryd.f64 42) 45 []) (frm 69 [(3, .ref 3 0), (9, .ref 5 0), (10, .ref 6 0), (11, .ref 8 0), (45, .it 9)]) (hp_pairN_5 c q pos ln r42s0_2 r42s0_5_0 r42s0_6_0 e42) ?_
    refine r0 9 45 #[46] encI 10 hb42_y1 (pairN_b42_b45_ok n c q pos ln e42) ?_
    cases b42_y1 with
    | s0 b42_y1_0_0 b42_y1_0_1 b42_y1_0_2 =>
      dsimp only at h
      cases h
      exact rr sch_pairN [0, 1, 2, 3, 4, 5, 6, 7] rfl H0
def pairN_l0 (n : Nat) (c : ConsD) (q : ProbD) (pos : List Int) (ln : Nat) (lost : List Int) : Option (Bool × (List Int)) :=
  if ((0 : Int) ≤ 0 ∧ 0 < (c.cells.length : Int)) ∧ ((0 : Int) ≤ 1 ∧ 1 < (c.cells.length : Int)) ∧ (0 ≤ (c.cells.getD 0 0) ∧ (c.cells.getD 0 0) < (pos.length : Int)) ∧ (0 ≤ (c.cells.getD 1 0) ∧ (c.cells.getD 1 0) < (pos.length : Int)) ∧ (0 ≤ (pos.getD ((c.cells.getD 0 0).toNat) 0) ∧ (pos.getD ((c.cells.getD 0 0).toNat) 0) < 9223372036854775808) then
   (foldO (pairN_b42 n c q pos ln) (symsI (pos.getD ((c.cells.getD 0 0).toNat) 0)) (.s0 lost 0 0)).bind fun y1 =>
    match y1 with
    | .s0 y1_0_0 y1_0_1 y1_0_2 =>
     (loseW n (c.cells.getD 0 0) (bits .xor .i64 (-1) y1_0_1) c q pos ln y1_0_0).bind fun y2 =>
      (loseW n (c.cells.getD 1 0) (bits .xor .i64 (-1) y1_0_2) c q pos ln y2).bind fun y3 =>
       some (true, y3)
  else none
def pairN (n : Nat) (c : ConsD) (q : ProbD) (pos : List Int) (ln : Nat) (lost : List Int) : Option (Bool × (List Int)) := pairN_l0 n c q pos ln lost
theorem pairN_ok {n : Nat} {c : ConsD} {q : ProbD} {pos : List Int} {ln : Nat} {lost : List Int} {r : Bool × (List Int)} (h : pairN n c q pos ln lost = some r) : ES Tryd.prog GG 64 [.ref 1 0, .fn 66 1 (L1 [.ref 0 0])] [some (.cells [.ref 1 0]), some (.cells (consC c ++ probC q ++ [.ints pos, .msl 2 1 0 ln])), some (.ints lost)] (.bool r.1) [some (.cells [.ref 1 0]), some (.cells (consC c ++ probC q ++ [.ints pos, .msl 2 1 0 ln])), some (.ints r.2)] false := by
  refine ot Tryd.func64 fun B N => ?_
  unfold pairN at h
  unfold pairN_l0 at h
  obtain ⟨⟨g0, g1, g2, g3, g4⟩, h⟩ := guardSome h
  obtain ⟨y1, hy1, h⟩ := bindSome h
  refine gs sch_pairN [0, 1, 2, 3, 4, 5, 6, 7] (H0.g s_pairN_1 |>.g g0 |>.g g1 |>.g s_pairN_2 |>.g g2 |>.g g3 |>.t |>.c (symbols_it g4 (hp_pairN_0 c q pos ln lost))) (atT (bodyC Tryd.f64) 42 []) (frm 69 [(0, .ref 1 0), (3, .ref 3 0), (5, .i (c.cells.getD 0 0)), (6, .i (c.cells.getD 1 0)), (8, .ref 4 0), (9, .ref 5 0), (10, .ref 6 0), (42, .it 7)]) (hp_pairN_1 c q pos ln lost) ?_
  refine r0 7 42 #[43] encI 8 hy1 (pairN_b42_ok n c q pos ln) ?_
  cases y1 with
  | s0 y1_0_0 y1_0_1 y1_0_2 =>
    dsimp only at h
    obtain ⟨y2, hy2, h⟩ := bindSome h
    obtain ⟨y3, hy3, h⟩ := bindSome h
    cases h
    exact ee sch_pairN [4] [0, 1, 2] (H0.c (em (loseW_ok hy2) [1, 2] (hp_pairN_2 c q pos ln y1_0_0 y1_0_1 y1_0_2)) |>.c (em (loseW_ok hy3) [1, 2] (hp_pairN_3 c q pos ln y2 y1_0_1 y1_0_2)))
def apartW_l0 (n : Nat) (c : ConsD) (q : ProbD) (pos : List Int) (ln : Nat) (lost : List Int) : Option (Bool × (List Int)) :=
  (pairA n c q pos ln lost).bind fun y1 =>
   some (y1.1, y1.2)
def apartW (n : Nat) (c : ConsD) (q : ProbD) (pos : List Int) (ln : Nat) (lost : List Int) : Option (Bool × (List Int)) := apartW_l0 n c q pos ln lost
theorem apartW_ok {n : Nat} {c : ConsD} {q : ProbD} {pos : List Int} {ln : Nat} {lost : List Int} {r : Bool × (List Int)} (h : apartW n c q pos ln lost = some r) : ES Tryd.prog GG 45 [.ref 0 0] [some (.cells (consC c ++ probC q ++ [.ints pos, .msl 1 1 0 ln])), some (.ints lost)] (.bool r.1) [some (.cells (consC c ++ probC q ++ [.ints pos, .msl 1 1 0 ln])), some (.ints r.2)] false := by
  refine ot Tryd.func45 fun B N => ?_
  unfold apartW at h
  unfold apartW_l0 at h
  obtain ⟨y1, hy1, h⟩ := bindSome h
  cases h
  exact ee sch0 [2] [0, 1] (H0.c (em (pairA_ok hy1) [2, 0, 1] [some (.cells (consC c ++ probC q ++ [.ints pos, .msl 1 1 0 ln])), some (.ints lost), some (.cells [.ref 0 0])]))
def notW_l0 (n : Nat) (c : ConsD) (q : ProbD) (pos : List Int) (ln : Nat) (lost : List Int) : Option (Bool × (List Int)) :=
  (pairN n c q pos ln lost).bind fun y1 =>
   some (y1.1, y1.2)
def notW (n : Nat) (c : ConsD) (q : ProbD) (pos : List Int) (ln : Nat) (lost : List Int) : Option (Bool × (List Int)) := notW_l0 n c q pos ln lost
theorem notW_ok {n : Nat} {c : ConsD} {q : ProbD} {pos : List Int} {ln : Nat} {lost : List Int} {r : Bool × (List Int)} (h : notW n c q pos ln lost = some r) : ES Tryd.prog GG 46 [.ref 0 0] [some (.cells (consC c ++ probC q ++ [.ints pos, .msl 1 1 0 ln])), some (.ints lost)] (.bool r.1) [some (.cells (consC c ++ probC q ++ [.ints pos, .msl 1 1 0 ln])), some (.ints r.2)] false := by
  refine ot Tryd.func46 fun B N => ?_
  unfold notW at h
  unfold notW_l0 at h
  obtain ⟨y1, hy1, h⟩ := bindSome h
  cases h
  exact ee sch0 [2] [0, 1] (H0.c (em (pairN_ok hy1) [2, 0, 1] [some (.cells (consC c ++ probC q ++ [.ints pos, .msl 1 1 0 ln])), some (.ints lost), some (.cells [.ref 0 0])]))
def hp_lineQ_0 (kd st oth lo hi : Int) (rn : List Int) (rl spt cells_ symbols_ : Int) : DH := [some (.cells [.i kd, .nils, .i st, .i oth, .i lo, .i hi, .ints rn, .i rl, .i spt]), some (.cells [.i 0, .i 0, .nils, .nils, .nils]), some (.cells [.i cells_, .i symbols_, .nils, .nils, .nils]), none]
def hp_lineQ_1 (kd st oth lo hi : Int) (rn : List Int) (rl spt cells_ symbols_ : Int) (o2_2 : Nat) (o3 : List Int) : DH := [some (.cells [.i kd, .nils, .i st, .i oth, .i lo, .i hi, .ints rn, .i rl, .i spt]), some (.cells [.i 0, .i 0, .nils, .nils, .nils]), some (.cells [.i cells_, .i symbols_, .msl 3 1 0 o2_2, .nils, .nils]), some (.ints o3), none]
def hp_lineQ_2 (kd : Int) (o0_1 : Nat) (st oth lo hi : Int) (rn : List Int) (rl spt : Int) (o1 : List Int) (cells_ symbols_ : Int) (o3_3 : Nat) (o4 : List (List Int)) : DH := [some (.cells [.i kd, .msl 1 1 0 o0_1, .i st, .i oth, .i lo, .i hi, .ints rn, .i rl, .i spt]), some (.ints o1), some (.cells [.i 0, .i 0, .nils, .nils, .nils]), some (.cells [.i cells_, .i symbols_, .nils, .msl 4 1 0 o3_3, .nils]), some (.arr 1 o4.length (rowE intsC o4)), none]
def hp_lineQ_3 (kd : Int) (o1 : List Int) (st oth lo hi : Int) (rn : List Int) (rl spt cells_ symbols_ : Int) (o3_3 : Nat) (o4 : List (List Int)) : DH := [some (.cells [.i kd, .ints o1, .i st, .i oth, .i lo, .i hi, .ints rn, .i rl, .i spt]), none, some (.cells [.i 0, .i 0, .nils, .nils, .nils]), some (.cells [.i cells_, .i symbols_, .nils, .msl 4 1 0 o3_3, .nils]), some (.arr 1 o4.length (rowE intsC o4))]
def hp_lineQ_4 (kd : Int) (o0_1 : Nat) (st oth lo hi : Int) (rn : List Int) (rl spt : Int) (o1 : List Int) (cells_ symbols_ : Int) (o3_2 o3_3 : Nat) (o4t2 : List Int) (o5 : List (List Int)) : DH := [some (.cells [.i kd, .msl 1 1 0 o0_1, .i st, .i oth, .i lo, .i hi, .ints rn, .i rl, .i spt]), some (.ints o1), some (.cells [.i 0, .i 0, .nils, .nils, .nils]), some (.cells [.i cells_, .i symbols_, .msl 4 1 0 o3_2, .msl 5 1 0 o3_3, .nils]), some (.ints o4t2), some (.arr 1 o5.length (rowE intsC o5)), none]
def hp_lineQ_5 (kd : Int) (o1 : List Int) (st oth lo hi : Int) (rn : List Int) (rl spt cells_ symbols_ : Int) (o3_2 o3_3 : Nat) (o4t2 : List Int) (o5 : List (List Int)) : DH := [some (.cells [.i kd, .ints o1, .i st, .i oth, .i lo, .i hi, .ints rn, .i rl, .i spt]), none, some (.cells [.i 0, .i 0, .nils, .nils, .nils]), some (.cells [.i cells_, .i symbols_, .msl 4 1 0 o3_2, .msl 5 1 0 o3_3, .nils]), some (.ints o4t2), some (.arr 1 o5.length (rowE intsC o5))]
inductive lineQPt where
  | l1
  | l2 (x15 : Int) (o2_2 : Nat) (o3 : List Int)
  | l3
  | l4 (o2_2 : Nat) (o3 : List Int)
  | l5 (x27 : Int) (o0_1 : Nat) (o1 : List Int) (o3_3 : Nat) (o4 : List (List Int))
  | l6 (x27 : Int) (o0_1 : Nat) (o1 : List Int) (o3_2 o3_3 : Nat) (o4t2 : List Int) (o5 : List (List Int))
def lineQ_l1 (n : Nat) (self : lineQPt → Option ProbD) (cells_ symbols_ kd st oth lo hi : Int) (rn : List Int) (rl spt : Int) : Option ProbD :=
  bif (decide (0 < symbols_)) then
   self (.l2 1 (([1] : List Int).length) ([1] : List Int))
  else
   self (.l3)
def lineQ_l2 (n : Nat) (self : lineQPt → Option ProbD) (cells_ symbols_ kd st oth lo hi : Int) (rn : List Int) (rl spt : Int) (x15 : Int) (o2_2 : Nat) (o3 : List Int) : Option ProbD :=
  bif (decide (x15 < symbols_)) then
   if R64 (x15 + 1) ∧ ((0 = 0 ∧ 1 = ([(x15 + 1)] : List Int).length) ∧ (0 = 0 ∧ o2_2 = o3.length) ∧ o3.length + ([(x15 + 1)] : List Int).length ≤ LIM) then
    self (.l2 (x15 + 1) (o3.length + ([(x15 + 1)] : List Int).length) (o3 ++ ([(x15 + 1)] : List Int)))
   else none
  else
   self (.l4 o2_2 o3)
def lineQ_l3 (n : Nat) (self : lineQPt → Option ProbD) (cells_ symbols_ kd st oth lo hi : Int) (rn : List Int) (rl spt : Int) : Option ProbD :=
  bif (decide (0 < cells_)) then
   bif (decide (1 < cells_)) then
    self (.l5 1 (([0] : List Int).length) ([0] : List Int) (([([1] : List Int)] : List (List Int)).length) ([([1] : List Int)] : List (List Int)))
   else
    self (.l5 1 (([0] : List Int).length) ([0] : List Int) (([([] : List Int)] : List (List Int)).length) ([([] : List Int)] : List (List Int)))
  else
   some (⟨cells_, symbols_, ([] : List Int), ([] : List (List Int)), ([(⟨kd, ([] : List Int), st, oth, lo, hi, rn, rl, spt⟩ : ConsD)] : List ConsD)⟩ : ProbD)
def lineQ_l4 (n : Nat) (self : lineQPt → Option ProbD) (cells_ symbols_ kd st oth lo hi : Int) (rn : List Int) (rl spt : Int) (o2_2 : Nat) (o3 : List Int) : Option ProbD :=
  bif (decide (0 < cells_)) then
   bif (decide (1 < cells_)) then
    self (.l6 1 (([0] : List Int).length) ([0] : List Int) o2_2 (([([1] : List Int)] : List (List Int)).length) o3 ([([1] : List Int)] : List (List Int)))
   else
    self (.l6 1 (([0] : List Int).length) ([0] : List Int) o2_2 (([([] : List Int)] : List (List Int)).length) o3 ([([] : List Int)] : List (List Int)))
  else
   if o2_2 = o3.length then
    some (⟨cells_, symbols_, o3, ([] : List (List Int)), ([(⟨kd, ([] : List Int), st, oth, lo, hi, rn, rl, spt⟩ : ConsD)] : List ConsD)⟩ : ProbD)
   else none
def lineQ_l5 (n : Nat) (self : lineQPt → Option ProbD) (cells_ symbols_ kd st oth lo hi : Int) (rn : List Int) (rl spt : Int) (x27 : Int) (o0_1 : Nat) (o1 : List Int) (o3_3 : Nat) (o4 : List (List Int)) : Option ProbD :=
  bif (decide (x27 < cells_)) then
   bif (decide (x27 > 0)) then
    if R64 (x27 - 1) ∧ ((0 = 0 ∧ 1 = ([(x27 - 1)] : List Int).length) ∧ 0 < ([(x27 - 1)] : List Int).length ∧ ([(x27 - 1)] : List Int).length ≤ LIM) ∧ R64 (x27 + 1) then
     bif (decide ((x27 + 1) < cells_)) then
      if (0 = 0 ∧ 1 = ([(x27 + 1)] : List Int).length) ∧ (0 = 0 ∧ ([(x27 - 1)] : List Int).length = ([(x27 - 1)] : List Int).length) ∧ ([(x27 - 1)] : List Int).length + ([(x27 + 1)] : List Int).length ≤ LIM then
       if ([(x27 - 1)] : List Int).length + ([(x27 + 1)] : List Int).length = (([(x27 - 1)] : List Int) ++ ([(x27 + 1)] : List Int)).length then
        if o3_3 = o4.length ∧ o4.length + ([([(x27 - 1)] : List Int) ++ ([(x27 + 1)] : List Int)] : List (List Int)).length ≤ LIM ∧ ((0 = 0 ∧ 1 = ([x27] : List Int).length) ∧ (0 = 0 ∧ o0_1 = o1.length) ∧ o1.length + ([x27] : List Int).length ≤ LIM) ∧ R64 (x27 + 1) then
         self (.l5 (x27 + 1) (o1.length + ([x27] : List Int).length) (o1 ++ ([x27] : List Int)) (o4.length + ([([(x27 - 1)] : List Int) ++ ([(x27 + 1)] : List Int)] : List (List Int)).length) (o4 ++ ([([(x27 - 1)] : List Int) ++ ([(x27 + 1)] : List Int)] : List (List Int))))
        else none
       else none
      else none
     else
      if o3_3 = o4.length ∧ o4.length + ([([(x27 - 1)] : List Int)] : List (List Int)).length ≤ LIM ∧ ((0 = 0 ∧ 1 = ([x27] : List Int).length) ∧ (0 = 0 ∧ o0_1 = o1.length) ∧ o1.length + ([x27] : List Int).length ≤ LIM) ∧ R64 (x27 + 1) then
       self (.l5 (x27 + 1) (o1.length + ([x27] : List Int).length) (o1 ++ ([x27] : List Int)) (o4.length + ([([(x27 - 1)] : List Int)] : List (List Int)).length) (o4 ++ ([([(x27 - 1)] : List Int)] : List (List Int))))
      else none
    else none
   else
    if R64 (x27 + 1) then
     bif (decide ((x27 + 1) < cells_)) then
      if (0 = 0 ∧ 1 = ([(x27 + 1)] : List Int).length) ∧ 0 < ([(x27 + 1)] : List Int).length ∧ ([(x27 + 1)] : List Int).length ≤ LIM then
       if o3_3 = o4.length ∧ o4.length + ([([(x27 + 1)] : List Int)] : List (List Int)).length ≤ LIM ∧ ((0 = 0 ∧ 1 = ([x27] : List Int).length) ∧ (0 = 0 ∧ o0_1 = o1.length) ∧ o1.length + ([x27] : List Int).length ≤ LIM) ∧ R64 (x27 + 1) then
        self (.l5 (x27 + 1) (o1.length + ([x27] : List Int).length) (o1 ++ ([x27] : List Int)) (o4.length + ([([(x27 + 1)] : List Int)] : List (List Int)).length) (o4 ++ ([([(x27 + 1)] : List Int)] : List (List Int))))
       else none
      else none
     else
      if o3_3 = o4.length ∧ o4.length + ([([] : List Int)] : List (List Int)).length ≤ LIM ∧ ((0 = 0 ∧ 1 = ([x27] : List Int).length) ∧ (0 = 0 ∧ o0_1 = o1.length) ∧ o1.length + ([x27] : List Int).length ≤ LIM) then
       self (.l5 (x27 + 1) (o1.length + ([x27] : List Int).length) (o1 ++ ([x27] : List Int)) (o4.length + ([([] : List Int)] : List (List Int)).length) (o4 ++ ([([] : List Int)] : List (List Int))))
      else none
    else none
  else
   if o0_1 = o1.length then
    if o3_3 = o4.length then
     some (⟨cells_, symbols_, ([] : List Int), o4, ([(⟨kd, o1, st, oth, lo, hi, rn, rl, spt⟩ : ConsD)] : List ConsD)⟩ : ProbD)
    else none
   else none
def lineQ_l6 (n : Nat) (self : lineQPt → Option ProbD) (cells_ symbols_ kd st oth lo hi : Int) (rn : List Int) (rl spt : Int) (x27 : Int) (o0_1 : Nat) (o1 : List Int) (o3_2 o3_3 : Nat) (o4t2 : List Int) (o5 : List (List Int)) : Option ProbD :=
  bif (decide (x27 < cells_)) then
   bif (decide (x27 > 0)) then
    if R64 (x27 - 1) ∧ ((0 = 0 ∧ 1 = ([(x27 - 1)] : List Int).length) ∧ 0 < ([(x27 - 1)] : List Int).length ∧ ([(x27 - 1)] : List Int).length ≤ LIM) ∧ R64 (x27 + 1) then
     bif (decide ((x27 + 1) < cells_)) then
      if (0 = 0 ∧ 1 = ([(x27 + 1)] : List Int).length) ∧ (0 = 0 ∧ ([(x27 - 1)] : List Int).length = ([(x27 - 1)] : List Int).length) ∧ ([(x27 - 1)] : List Int).length + ([(x27 + 1)] : List Int).length ≤ LIM then
       if ([(x27 - 1)] : List Int).length + ([(x27 + 1)] : List Int).length = (([(x27 - 1)] : List Int) ++ ([(x27 + 1)] : List Int)).length then
        if o3_3 = o5.length ∧ o5.length + ([([(x27 - 1)] : List Int) ++ ([(x27 + 1)] : List Int)] : List (List Int)).length ≤ LIM ∧ ((0 = 0 ∧ 1 = ([x27] : List Int).length) ∧ (0 = 0 ∧ o0_1 = o1.length) ∧ o1.length + ([x27] : List Int).length ≤ LIM) ∧ R64 (x27 + 1) then
         self (.l6 (x27 + 1) (o1.length + ([x27] : List Int).length) (o1 ++ ([x27] : List Int)) o3_2 (o5.length + ([([(x27 - 1)] : List Int) ++ ([(x27 + 1)] : List Int)] : List (List Int)).length) o4t2 (o5 ++ ([([(x27 - 1)] : List Int) ++ ([(x27 + 1)] : List Int)] : List (List Int))))
        else none
       else none
      else none
     else
      if o3_3 = o5.length ∧ o5.length + ([([(x27 - 1)] : List Int)] : List (List Int)).length ≤ LIM ∧ ((0 = 0 ∧ 1 = ([x27] : List Int).length) ∧ (0 = 0 ∧ o0_1 = o1.length) ∧ o1.length + ([x27] : List Int).length ≤ LIM) ∧ R64 (x27 + 1) then
       self (.l6 (x27 + 1) (o1.length + ([x27] : List Int).length) (o1 ++ ([x27] : List Int)) o3_2 (o5.length + ([([(x27 - 1)] : List Int)] : List (List Int)).length) o4t2 (o5 ++ ([([(x27 - 1)] : List Int)] : List (List Int))))
      else none
    else none
   else
    if R64 (x27 + 1) then
     bif (decide ((x27 + 1) < cells_)) then
      if (0 = 0 ∧ 1 = ([(x27 + 1)] : List Int).length) ∧ 0 < ([(x27 + 1)] : List Int).length ∧ ([(x27 + 1)] : List Int).length ≤ LIM then
       if o3_3 = o5.length ∧ o5.length + ([([(x27 + 1)] : List Int)] : List (List Int)).length ≤ LIM ∧ ((0 = 0 ∧ 1 = ([x27] : List Int).length) ∧ (0 = 0 ∧ o0_1 = o1.length) ∧ o1.length + ([x27] : List Int).length ≤ LIM) ∧ R64 (x27 + 1) then
        self (.l6 (x27 + 1) (o1.length + ([x27] : List Int).length) (o1 ++ ([x27] : List Int)) o3_2 (o5.length + ([([(x27 + 1)] : List Int)] : List (List Int)).length) o4t2 (o5 ++ ([([(x27 + 1)] : List Int)] : List (List Int))))
       else none
      else none
     else
      if o3_3 = o5.length ∧ o5.length + ([([] : List Int)] : List (List Int)).length ≤ LIM ∧ ((0 = 0 ∧ 1 = ([x27] : List Int).length) ∧ (0 = 0 ∧ o0_1 = o1.length) ∧ o1.length + ([x27] : List Int).length ≤ LIM) then
       self (.l6 (x27 + 1) (o1.length + ([x27] : List Int).length) (o1 ++ ([x27] : List Int)) o3_2 (o5.length + ([([] : List Int)] : List (List Int)).length) o4t2 (o5 ++ ([([] : List Int)] : List (List Int))))
      else none
    else none
  else
   if o0_1 = o1.length then
    if o3_2 = o4t2.length ∧ o3_3 = o5.length then
     some (⟨cells_, symbols_, o4t2, o5, ([(⟨kd, o1, st, oth, lo, hi, rn, rl, spt⟩ : ConsD)] : List ConsD)⟩ : ProbD)
    else none
   else none
def lineQ_l0 (n : Nat) (self : lineQPt → Option ProbD) (cells_ symbols_ kd st oth lo hi : Int) (rn : List Int) (rl spt : Int) : Option ProbD :=
  self (.l1)
def lineQ_m (cells_ symbols_ kd st oth lo hi : Int) (rn : List Int) (rl spt : Int) : Nat → lineQPt → Option ProbD
  | 0, _ => none
  | n + 1, .l1 => lineQ_l1 n (lineQ_m cells_ symbols_ kd st oth lo hi rn rl spt n) cells_ symbols_ kd st oth lo hi rn rl spt
  | n + 1, .l2 x15 o2_2 o3 => lineQ_l2 n (lineQ_m cells_ symbols_ kd st oth lo hi rn rl spt n) cells_ symbols_ kd st oth lo hi rn rl spt x15 o2_2 o3
  | n + 1, .l3 => lineQ_l3 n (lineQ_m cells_ symbols_ kd st oth lo hi rn rl spt n) cells_ symbols_ kd st oth lo hi rn rl spt
  | n + 1, .l4 o2_2 o3 => lineQ_l4 n (lineQ_m cells_ symbols_ kd st oth lo hi rn rl spt n) cells_ symbols_ kd st oth lo hi rn rl spt o2_2 o3
  | n + 1, .l5 x27 o0_1 o1 o3_3 o4 => lineQ_l5 n (lineQ_m cells_ symbols_ kd st oth lo hi rn rl spt n) cells_ symbols_ kd st oth lo hi rn rl spt x27 o0_1 o1 o3_3 o4
  | n + 1, .l6 x27 o0_1 o1 o3_2 o3_3 o4t2 o5 => lineQ_l6 n (lineQ_m cells_ symbols_ kd st oth lo hi rn rl spt n) cells_ symbols_ kd st oth lo hi rn rl spt x27 o0_1 o1 o3_2 o3_3 o4t2 o5
def lineQ (n : Nat) (cells_ symbols_ kd st oth lo hi : Int) (rn : List Int) (rl spt : Int) : Option ProbD := lineQ_l0 n (lineQ_m cells_ symbols_ kd st oth lo hi rn rl spt n) cells_ symbols_ kd st oth lo hi rn rl spt
/-- What the points stand for. -/
def lineQ_at (n : Nat) (B : Nat) (N : Yard Tryd.prog GG 0) (cells_ symbols_ kd st oth lo hi : Int) (rn : List Int) (rl spt : Int) (r : ProbD) : lineQPt → Prop
  | .l1 => ∀ m0 : Nat, n ≤ m0 → TrK Tryd.prog GG Fence.wide (some B) 0 N (Fin Tryd.prog Tryd.f18 0 (.agg 5 (L1 (probC r))) []) (toN m0 (atNC (bodyC Tryd.f18) 0 [])) ⟨frm 63 [(0, .i cells_), (5, .ref 0 0), (6, .ref 1 0), (7, .ref 2 0), (14, .i symbols_), (15, .i 0)], [some (.cells [.i kd, .nils, .i st, .i oth, .i lo, .i hi, .ints rn, .i rl, .i spt]), some (.cells [.i 0, .i 0, .nils, .nils, .nils]), some (.cells [.i cells_, .i symbols_, .nils, .nils, .nils])]⟩
  | .l2 x15 o2_2 o3 => ∀ m0 : Nat, n ≤ m0 → TrK Tryd.prog GG Fence.wide (some B) 0 N (Fin Tryd.prog Tryd.f18 0 (.agg 5 (L1 (probC r))) []) (toN m0 (atNC (bodyC Tryd.f18) 0 [])) ⟨frm 63 [(0, .i cells_), (5, .ref 0 0), (6, .ref 1 0), (7, .ref 2 0), (14, .i symbols_), (15, .i x15)], [some (.cells [.i kd, .nils, .i st, .i oth, .i lo, .i hi, .ints rn, .i rl, .i spt]), some (.cells [.i 0, .i 0, .nils, .nils, .nils]), some (.cells [.i cells_, .i symbols_, .msl 3 1 0 o2_2, .nils, .nils]), some (.ints o3)]⟩
  | .l3 => ∀ m0 : Nat, n ≤ m0 → TrK Tryd.prog GG Fence.wide (some B) 0 N (Fin Tryd.prog Tryd.f18 0 (.agg 5 (L1 (probC r))) []) (toN m0 (atNC (bodyC Tryd.f18) 2 [])) ⟨frm 63 [(0, .i cells_), (5, .ref 0 0), (6, .ref 1 0), (7, .ref 2 0), (26, .i cells_), (27, .i 0)], [some (.cells [.i kd, .nils, .i st, .i oth, .i lo, .i hi, .ints rn, .i rl, .i spt]), some (.cells [.i 0, .i 0, .nils, .nils, .nils]), some (.cells [.i cells_, .i symbols_, .nils, .nils, .nils])]⟩
  | .l4 o2_2 o3 => ∀ m0 : Nat, n ≤ m0 → TrK Tryd.prog GG Fence.wide (some B) 0 N (Fin Tryd.prog Tryd.f18 0 (.agg 5 (L1 (probC r))) []) (toN m0 (atNC (bodyC Tryd.f18) 2 [])) ⟨frm 63 [(0, .i cells_), (5, .ref 0 0), (6, .ref 1 0), (7, .ref 2 0), (26, .i cells_), (27, .i 0)], [some (.cells [.i kd, .nils, .i st, .i oth, .i lo, .i hi, .ints rn, .i rl, .i spt]), some (.cells [.i 0, .i 0, .nils, .nils, .nils]), some (.cells [.i cells_, .i symbols_, .msl 3 1 0 o2_2, .nils, .nils]), some (.ints o3)]⟩
  | .l5 x27 o0_1 o1 o3_3 o4 => ∀ m0 : Nat, n ≤ m0 → TrK Tryd.prog GG Fence.wide (some B) 0 N (Fin Tryd.prog Tryd.f18 0 (.agg 5 (L1 (probC r))) []) (toN m0 (atNC (bodyC Tryd.f18) 2 [])) ⟨frm 63 [(0, .i cells_), (5, .ref 0 0), (6, .ref 2 0), (7, .ref 3 0), (26, .i cells_), (27, .i x27)], [some (.cells [.i kd, .msl 1 1 0 o0_1, .i st, .i oth, .i lo, .i hi, .ints rn, .i rl, .i spt]), some (.ints o1), some (.cells [.i 0, .i 0, .nils, .nils, .nils]), some (.cells [.i cells_, .i symbols_, .nils, .msl 4 1 0 o3_3, .nils]), some (.arr 1 o4.length (rowE intsC o4))]⟩
  | .l6 x27 o0_1 o1 o3_2 o3_3 o4t2 o5 => ∀ m0 : Nat, n ≤ m0 → TrK Tryd.prog GG Fence.wide (some B) 0 N (Fin Tryd.prog Tryd.f18 0 (.agg 5 (L1 (probC r))) []) (toN m0 (atNC (bodyC Tryd.f18) 2 [])) ⟨frm 63 [(0, .i cells_), (5, .ref 0 0), (6, .ref 2 0), (7, .ref 3 0), (26, .i cells_), (27, .i x27)], [some (.cells [.i kd, .msl 1 1 0 o0_1, .i st, .i oth, .i lo, .i hi, .ints rn, .i rl, .i spt]), some (.ints o1), some (.cells [.i 0, .i 0, .nils, .nils, .nils]), some (.cells [.i cells_, .i symbols_, .msl 4 1 0 o3_2, .msl 5 1 0 o3_3, .nils]), some (.ints o4t2), some (.arr 1 o5.length (rowE intsC o5))]⟩
theorem lineQ_all (B : Nat) (N : Yard Tryd.prog GG 0) (cells_ symbols_ kd st oth lo hi : Int) (rn : List Int) (rl spt : Int) : ∀ (n : Nat) (pt : lineQPt) (r : ProbD), lineQ_m cells_ symbols_ kd st oth lo hi rn rl spt n pt = some r → lineQ_at n B N cells_ symbols_ kd st oth lo hi rn rl spt r pt := by
  intro n; induction n with
  | zero => intro _ _ h; cases h
  | succ n hself =>
   intro pt r h
   cases pt
   case l1 =>
    have h : lineQ_l1 n (lineQ_m cells_ symbols_ kd st oth lo hi rn rl spt n) cells_ symbols_ kd st oth lo hi rn rl spt = some r := h
    intro m0 hm0
    refine rd hm0 fun m0 hm0 => ?_
    unfold lineQ_l1 at h
    rcases bifSome h with ⟨c0, h⟩ | ⟨c0, h⟩
    · exact gg sch0 [0, 1, 2, 4] (H0.b 16 c0 |>.g (by decide : (0 = 0 ∧ 1 = ([1] : List Int).length) ∧ 0 < ([1] : List Int).length ∧ ([1] : List Int).length ≤ LIM) |>.t) (hself _ _ h m0 hm0)
    · exact gg sch0 [0, 1, 2] (H0.b 16 c0) (en n (hself _ _ h n (Nat.le_refl _)))
   case l2 x15 o2_2 o3 =>
    have h : lineQ_l2 n (lineQ_m cells_ symbols_ kd st oth lo hi rn rl spt n) cells_ symbols_ kd st oth lo hi rn rl spt x15 o2_2 o3 = some r := h
    intro m0 hm0
    refine rd hm0 fun m0 hm0 => ?_
    unfold lineQ_l2 at h
    rcases bifSome h with ⟨c0, h⟩ | ⟨c0, h⟩
    · obtain ⟨⟨g0, g1⟩, h⟩ := guardSome h
      exact gg sch0 [0, 1, 2, 5] (H0.b 16 c0 |>.w 21 g0 |>.g g1 |>.t |>.w 25 g0) (hself _ _ h m0 hm0)
    · exact gg sch0 [0, 1, 2, 3] (H0.b 16 c0) (en n (hself _ _ h n (Nat.le_refl _)))
   case l3 =>
    have h : lineQ_l3 n (lineQ_m cells_ symbols_ kd st oth lo hi rn rl spt n) cells_ symbols_ kd st oth lo hi rn rl spt = some r := h
    intro m0 hm0
    refine rd hm0 fun m0 hm0 => ?_
    unfold lineQ_l3 at h
    rcases bifSome h with ⟨c0, h⟩ | ⟨c0, h⟩
    · have p := H0.b 28 c0
      rcases bifSome h with ⟨c1, h⟩ | ⟨c1, h⟩
      · refine gz (stopAt 15 sch0) [0, 1, 2, 4] (p.b 40 c1 |>.g (by decide : (0 = 0 ∧ 1 = ([1] : List Int).length) ∧ 0 < ([1] : List Int).length ∧ ([1] : List Int).length ≤ LIM)) [3] (H0.g (Eq.refl (([1] : List Int).length))) (atGC (bodyC Tryd.f18) 15 [m0]) (frm 63 [(0, .i cells_), (5, .ref 0 0), (6, .ref 1 0), (7, .ref 2 0), (9, .i 0), (10, .ints ([1] : List Int)), (26, .i cells_), (27, .i 0)]) (hp_lineQ_0 kd st oth lo hi rn rl spt cells_ symbols_) ?_
        exact gg sch0 [0, 7, 1, 2, 5] (H0.a 49 4 1 (rows_build (c := intsC) (L := ([([1] : List Int)] : List (List Int))) (vals := [.ints ([1] : List Int)]) rfl ⟨⟨_, rfl, ⟨dle_refl, trivial⟩⟩, trivial⟩) |>.g (And.intro (And.intro (And.intro (Eq.refl 0) (by decide : 1 = ([([1] : List Int)] : List (List Int)).length)) (oneR intsC ([([1] : List Int)] : List (List Int)) (([([1] : List Int)] : List (List Int)).length) 1 fun _ => ⟨rfl, rfl⟩)) (And.intro (by decide : 0 < ([([1] : List Int)] : List (List Int)).length) (by decide : ([([1] : List Int)] : List (List Int)).length ≤ LIM))) |>.t |>.g (by decide : (0 = 0 ∧ 1 = ([0] : List Int).length) ∧ 0 < ([0] : List Int).length ∧ ([0] : List Int).length ≤ LIM) |>.t) (hself _ _ h m0 hm0)
      · exact gg sch0 [0, 6, 1, 2, 4] (p.b 40 c1 |>.a 49 3 1 (rows_build (c := intsC) (L := ([([] : List Int)] : List (List Int))) (vals := [.nils]) rfl ⟨⟨_, rfl, ⟨DLe.ints_nil, trivial⟩⟩, trivial⟩) |>.g (And.intro (And.intro (And.intro (Eq.refl 0) (by decide : 1 = ([([] : List Int)] : List (List Int)).length)) (oneR intsC ([([] : List Int)] : List (List Int)) (([([] : List Int)] : List (List Int)).length) 1 fun _ => ⟨rfl, rfl⟩)) (And.intro (by decide : 0 < ([([] : List Int)] : List (List Int)).length) (by decide : ([([] : List Int)] : List (List Int)).length ≤ LIM))) |>.t |>.g (by decide : (0 = 0 ∧ 1 = ([0] : List Int).length) ∧ 0 < ([0] : List Int).length ∧ ([0] : List Int).length ≤ LIM) |>.t) (hself _ _ h m0 hm0)
    · cases h
      exact el sch0 [6] [1, 3] (H0.b 28 c0 |>.a 60 3 9 (rows_build (c := consC) (L := ([(⟨kd, ([] : List Int), st, oth, lo, hi, rn, rl, spt⟩ : ConsD)] : List ConsD)) (vals := [.agg 9 (L1 [.i kd, .nils, .i st, .i oth, .i lo, .i hi, .ints rn, .i rl, .i spt])]) rfl ⟨⟨_, rfl, ⟨dle_refl, DLe.ints_nil, dle_refl, dle_refl, dle_refl, dle_refl, dle_refl, dle_refl, dle_refl, trivial⟩⟩, trivial⟩) |>.t |>.t) [1] (H0.g (Eq.refl 1)) [.agg 5 (L1 [.i cells_, .i symbols_, .nils, .nils, .sl 9 (([(⟨kd, ([] : List Int), st, oth, lo, hi, rn, rl, spt⟩ : ConsD)] : List ConsD).length) (rowE consC ([(⟨kd, ([] : List Int), st, oth, lo, hi, rn, rl, spt⟩ : ConsD)] : List ConsD))])] (DLe.aggL (l := [.i cells_, .i symbols_, .nils, .nils, .sl 9 (([(⟨kd, ([] : List Int), st, oth, lo, hi, rn, rl, spt⟩ : ConsD)] : List ConsD).length) (rowE consC ([(⟨kd, ([] : List Int), st, oth, lo, hi, rn, rl, spt⟩ : ConsD)] : List ConsD))]) (l' := [.i cells_, .i symbols_, .ints ([] : List Int), .sl 1 (([] : List (List Int)).length) (rowE intsC ([] : List (List Int))), .sl 9 (([(⟨kd, ([] : List Int), st, oth, lo, hi, rn, rl, spt⟩ : ConsD)] : List ConsD).length) (rowE consC ([(⟨kd, ([] : List Int), st, oth, lo, hi, rn, rl, spt⟩ : ConsD)] : List ConsD))]) rfl ⟨(DLe.refl _), (DLe.refl _), DLe.ints_nil, (DLe.sl_nil _ _), (DLe.refl _), trivial⟩)
   case l4 o2_2 o3 =>
    have h : lineQ_l4 n (lineQ_m cells_ symbols_ kd st oth lo hi rn rl spt n) cells_ symbols_ kd st oth lo hi rn rl spt o2_2 o3 = some r := h
    intro m0 hm0
    refine rd hm0 fun m0 hm0 => ?_
    unfold lineQ_l4 at h
    rcases bifSome h with ⟨c0, h⟩ | ⟨c0, h⟩
    · have p := H0.b 28 c0
      rcases bifSome h with ⟨c1, h⟩ | ⟨c1, h⟩
      · refine gz (stopAt 15 sch0) [0, 1, 2, 3, 5] (p.b 40 c1 |>.g (by decide : (0 = 0 ∧ 1 = ([1] : List Int).length) ∧ 0 < ([1] : List Int).length ∧ ([1] : List Int).length ≤ LIM)) [4] (H0.g (Eq.refl (([1] : List Int).length))) (atGC (bodyC Tryd.f18) 15 [m0]) (frm 63 [(0, .i cells_), (5, .ref 0 0), (6, .ref 1 0), (7, .ref 2 0), (9, .i 0), (10, .ints ([1] : List Int)), (26, .i cells_), (27, .i 0)]) (hp_lineQ_1 kd st oth lo hi rn rl spt cells_ symbols_ o2_2 o3) ?_
        exact gg sch0 [0, 8, 1, 2, 3, 6] (H0.a 49 5 1 (rows_build (c := intsC) (L := ([([1] : List Int)] : List (List Int))) (vals := [.ints ([1] : List Int)]) rfl ⟨⟨_, rfl, ⟨dle_refl, trivial⟩⟩, trivial⟩) |>.g (And.intro (And.intro (And.intro (Eq.refl 0) (by decide : 1 = ([([1] : List Int)] : List (List Int)).length)) (oneR intsC ([([1] : List Int)] : List (List Int)) (([([1] : List Int)] : List (List Int)).length) 1 fun _ => ⟨rfl, rfl⟩)) (And.intro (by decide : 0 < ([([1] : List Int)] : List (List Int)).length) (by decide : ([([1] : List Int)] : List (List Int)).length ≤ LIM))) |>.t |>.g (by decide : (0 = 0 ∧ 1 = ([0] : List Int).length) ∧ 0 < ([0] : List Int).length ∧ ([0] : List Int).length ≤ LIM) |>.t) (hself _ _ h m0 hm0)
      · exact gg sch0 [0, 7, 1, 2, 3, 5] (p.b 40 c1 |>.a 49 4 1 (rows_build (c := intsC) (L := ([([] : List Int)] : List (List Int))) (vals := [.nils]) rfl ⟨⟨_, rfl, ⟨DLe.ints_nil, trivial⟩⟩, trivial⟩) |>.g (And.intro (And.intro (And.intro (Eq.refl 0) (by decide : 1 = ([([] : List Int)] : List (List Int)).length)) (oneR intsC ([([] : List Int)] : List (List Int)) (([([] : List Int)] : List (List Int)).length) 1 fun _ => ⟨rfl, rfl⟩)) (And.intro (by decide : 0 < ([([] : List Int)] : List (List Int)).length) (by decide : ([([] : List Int)] : List (List Int)).length ≤ LIM))) |>.t |>.g (by decide : (0 = 0 ∧ 1 = ([0] : List Int).length) ∧ 0 < ([0] : List Int).length ∧ ([0] : List Int).length ≤ LIM) |>.t) (hself _ _ h m0 hm0)
    · obtain ⟨g0, h⟩ := guardSome h
      cases h
      exact el sch0 [6] [1, 3, 4] (H0.b 28 c0 |>.a 60 4 9 (rows_build (c := consC) (L := ([(⟨kd, ([] : List Int), st, oth, lo, hi, rn, rl, spt⟩ : ConsD)] : List ConsD)) (vals := [.agg 9 (L1 [.i kd, .nils, .i st, .i oth, .i lo, .i hi, .ints rn, .i rl, .i spt])]) rfl ⟨⟨_, rfl, ⟨dle_refl, DLe.ints_nil, dle_refl, dle_refl, dle_refl, dle_refl, dle_refl, dle_refl, dle_refl, trivial⟩⟩, trivial⟩) |>.t |>.t) [1, 2] (H0.g g0 |>.g (Eq.refl 1)) [.agg 5 (L1 [.i cells_, .i symbols_, .ints o3, .nils, .sl 9 (([(⟨kd, ([] : List Int), st, oth, lo, hi, rn, rl, spt⟩ : ConsD)] : List ConsD).length) (rowE consC ([(⟨kd, ([] : List Int), st, oth, lo, hi, rn, rl, spt⟩ : ConsD)] : List ConsD))])] (DLe.aggL (l := [.i cells_, .i symbols_, .ints o3, .nils, .sl 9 (([(⟨kd, ([] : List Int), st, oth, lo, hi, rn, rl, spt⟩ : ConsD)] : List ConsD).length) (rowE consC ([(⟨kd, ([] : List Int), st, oth, lo, hi, rn, rl, spt⟩ : ConsD)] : List ConsD))]) (l' := [.i cells_, .i symbols_, .ints o3, .sl 1 (([] : List (List Int)).length) (rowE intsC ([] : List (List Int))), .sl 9 (([(⟨kd, ([] : List Int), st, oth, lo, hi, rn, rl, spt⟩ : ConsD)] : List ConsD).length) (rowE consC ([(⟨kd, ([] : List Int), st, oth, lo, hi, rn, rl, spt⟩ : ConsD)] : List ConsD))]) rfl ⟨(DLe.refl _), (DLe.refl _), (DLe.refl _), (DLe.sl_nil _ _), (DLe.refl _), trivial⟩)
   case l5 x27 o0_1 o1 o3_3 o4 =>
    have h : lineQ_l5 n (lineQ_m cells_ symbols_ kd st oth lo hi rn rl spt n) cells_ symbols_ kd st oth lo hi rn rl spt x27 o0_1 o1 o3_3 o4 = some r := h
    intro m0 hm0
    refine rd hm0 fun m0 hm0 => ?_
    unfold lineQ_l5 at h
    rcases bifSome h with ⟨c0, h⟩ | ⟨c0, h⟩
    · have p := H0.b 28 c0
      rcases bifSome h with ⟨c1, h⟩ | ⟨c1, h⟩
      · obtain ⟨⟨g0, g1, g2⟩, h⟩ := guardSome h
        have p := p.b 31 c1 |>.w 34 g0 |>.g g1 |>.w 38 g2
        rcases bifSome h with ⟨c2, h⟩ | ⟨c2, h⟩
        · obtain ⟨g3, h⟩ := guardSome h
          obtain ⟨g4, h⟩ := guardSome h
          refine gz (stopAt 15 sch0) [0, 1, 2, 3, 4, 8] (p.b 40 c2 |>.w 43 g2 |>.g g3) [5] (H0.g g4) (atGC (bodyC Tryd.f18) 15 [m0]) (frm 63 [(0, .i cells_), (5, .ref 0 0), (6, .ref 2 0), (7, .ref 3 0), (9, .i x27), (10, .ints (([(x27 - 1)] : List Int) ++ ([(x27 + 1)] : List Int))), (26, .i cells_), (27, .i x27)]) (hp_lineQ_2 kd o0_1 st oth lo hi rn rl spt o1 cells_ symbols_ o3_3 o4) ?_
          obtain ⟨⟨g5, g6, g7, g8⟩, h⟩ := guardSome h
          exact gg sch0 [0, 9, 2, 3, 7] (H0.a 49 6 1 (rows_build (c := intsC) (L := ([([(x27 - 1)] : List Int) ++ ([(x27 + 1)] : List Int)] : List (List Int))) (vals := [.ints (([(x27 - 1)] : List Int) ++ ([(x27 + 1)] : List Int))]) rfl ⟨⟨_, rfl, ⟨dle_refl, trivial⟩⟩, trivial⟩) |>.g (And.intro (And.intro (And.intro (Eq.refl 0) (Eq.refl 1)) (oneR intsC ([([(x27 - 1)] : List Int) ++ ([(x27 + 1)] : List Int)] : List (List Int)) (([([(x27 - 1)] : List Int) ++ ([(x27 + 1)] : List Int)] : List (List Int)).length) 1 fun _ => ⟨rfl, rfl⟩)) (And.intro (And.intro (Eq.refl 0) g5) g6)) |>.a 50 7 1 (rows_app (enc := (encE intsC)) (L := o4) (L' := ([([(x27 - 1)] : List Int) ++ ([(x27 + 1)] : List Int)] : List (List Int))) rfl rfl fun _ _ _ _ => dle_refl) |>.t |>.g g7 |>.t |>.w 58 g8) (hself _ _ h m0 hm0)
        · refine gz (stopAt 15 sch0) [0, 1, 2, 3, 4, 6] (p.b 40 c2) [5] (H0.g (Eq.refl (([(x27 - 1)] : List Int).length))) (atGC (bodyC Tryd.f18) 15 [m0]) (frm 63 [(0, .i cells_), (5, .ref 0 0), (6, .ref 2 0), (7, .ref 3 0), (9, .i x27), (10, .ints ([(x27 - 1)] : List Int)), (26, .i cells_), (27, .i x27)]) (hp_lineQ_2 kd o0_1 st oth lo hi rn rl spt o1 cells_ symbols_ o3_3 o4) ?_
          obtain ⟨⟨g3, g4, g5, g6⟩, h⟩ := guardSome h
          exact gg sch0 [0, 9, 2, 3, 7] (H0.a 49 6 1 (rows_build (c := intsC) (L := ([([(x27 - 1)] : List Int)] : List (List Int))) (vals := [.ints ([(x27 - 1)] : List Int)]) rfl ⟨⟨_, rfl, ⟨dle_refl, trivial⟩⟩, trivial⟩) |>.g (And.intro (And.intro (And.intro (Eq.refl 0) (Eq.refl 1)) (oneR intsC ([([(x27 - 1)] : List Int)] : List (List Int)) (([([(x27 - 1)] : List Int)] : List (List Int)).length) 1 fun _ => ⟨rfl, rfl⟩)) (And.intro (And.intro (Eq.refl 0) g3) g4)) |>.a 50 7 1 (rows_app (enc := (encE intsC)) (L := o4) (L' := ([([(x27 - 1)] : List Int)] : List (List Int))) rfl rfl fun _ _ _ _ => dle_refl) |>.t |>.g g5 |>.t |>.w 58 g6) (hself _ _ h m0 hm0)
      · obtain ⟨g0, h⟩ := guardSome h
        have p := p.b 31 c1 |>.w 38 g0
        rcases bifSome h with ⟨c2, h⟩ | ⟨c2, h⟩
        · obtain ⟨g1, h⟩ := guardSome h
          refine gz (stopAt 15 sch0) [0, 1, 2, 3, 4, 6] (p.b 40 c2 |>.w 43 g0 |>.g g1) [5] (H0.g (Eq.refl (([(x27 + 1)] : List Int).length))) (atGC (bodyC Tryd.f18) 15 [m0]) (frm 63 [(0, .i cells_), (5, .ref 0 0), (6, .ref 2 0), (7, .ref 3 0), (9, .i x27), (10, .ints ([(x27 + 1)] : List Int)), (26, .i cells_), (27, .i x27)]) (hp_lineQ_2 kd o0_1 st oth lo hi rn rl spt o1 cells_ symbols_ o3_3 o4) ?_
          obtain ⟨⟨g2, g3, g4, g5⟩, h⟩ := guardSome h
          exact gg sch0 [0, 9, 2, 3, 7] (H0.a 49 6 1 (rows_build (c := intsC) (L := ([([(x27 + 1)] : List Int)] : List (List Int))) (vals := [.ints ([(x27 + 1)] : List Int)]) rfl ⟨⟨_, rfl, ⟨dle_refl, trivial⟩⟩, trivial⟩) |>.g (And.intro (And.intro (And.intro (Eq.refl 0) (Eq.refl 1)) (oneR intsC ([([(x27 + 1)] : List Int)] : List (List Int)) (([([(x27 + 1)] : List Int)] : List (List Int)).length) 1 fun _ => ⟨rfl, rfl⟩)) (And.intro (And.intro (Eq.refl 0) g2) g3)) |>.a 50 7 1 (rows_app (enc := (encE intsC)) (L := o4) (L' := ([([(x27 + 1)] : List Int)] : List (List Int))) rfl rfl fun _ _ _ _ => dle_refl) |>.t |>.g g4 |>.t |>.w 58 g5) (hself _ _ h m0 hm0)
        · obtain ⟨⟨g1, g2, g3⟩, h⟩ := guardSome h
          exact gg sch0 [0, 8, 2, 3, 6] (p.b 40 c2 |>.a 49 5 1 (rows_build (c := intsC) (L := ([([] : List Int)] : List (List Int))) (vals := [.nils]) rfl ⟨⟨_, rfl, ⟨DLe.ints_nil, trivial⟩⟩, trivial⟩) |>.g (And.intro (And.intro (And.intro (Eq.refl 0) (by decide : 1 = ([([] : List Int)] : List (List Int)).length)) (oneR intsC ([([] : List Int)] : List (List Int)) (([([] : List Int)] : List (List Int)).length) 1 fun _ => ⟨rfl, rfl⟩)) (And.intro (And.intro (Eq.refl 0) g1) g2)) |>.a 50 6 1 (rows_app (enc := (encE intsC)) (L := o4) (L' := ([([] : List Int)] : List (List Int))) rfl rfl fun _ _ _ _ => dle_refl) |>.t |>.g g3 |>.t |>.w 58 g0) (hself _ _ h m0 hm0)
    · obtain ⟨g0, h⟩ := guardSome h
      refine gz (stopAt 18 sch0) [0, 1, 2, 3, 4] (H0.b 28 c0) [1] (H0.g g0) (atGC (bodyC Tryd.f18) 18 []) (frm 63 [(5, .ref 0 0), (6, .ref 2 0), (7, .ref 3 0)]) (hp_lineQ_3 kd o1 st oth lo hi rn rl spt cells_ symbols_ o3_3 o4) ?_
      obtain ⟨g1, h⟩ := guardSome h
      cases h
      exact el sch0 [6] [2, 4, 5] (H0.a 60 5 9 (rows_build (c := consC) (L := ([(⟨kd, o1, st, oth, lo, hi, rn, rl, spt⟩ : ConsD)] : List ConsD)) (vals := [.agg 9 (L1 [.i kd, .ints o1, .i st, .i oth, .i lo, .i hi, .ints rn, .i rl, .i spt])]) rfl ⟨⟨_, rfl, ⟨dle_refl, dle_refl, dle_refl, dle_refl, dle_refl, dle_refl, dle_refl, dle_refl, dle_refl, trivial⟩⟩, trivial⟩) |>.t |>.t) [1, 2] (H0.g g1 |>.g (Eq.refl 1)) [.agg 5 (L1 [.i cells_, .i symbols_, .nils, .sl 1 o4.length (rowE intsC o4), .sl 9 (([(⟨kd, o1, st, oth, lo, hi, rn, rl, spt⟩ : ConsD)] : List ConsD).length) (rowE consC ([(⟨kd, o1, st, oth, lo, hi, rn, rl, spt⟩ : ConsD)] : List ConsD))])] (DLe.aggL (l := [.i cells_, .i symbols_, .nils, .sl 1 o4.length (rowE intsC o4), .sl 9 (([(⟨kd, o1, st, oth, lo, hi, rn, rl, spt⟩ : ConsD)] : List ConsD).length) (rowE consC ([(⟨kd, o1, st, oth, lo, hi, rn, rl, spt⟩ : ConsD)] : List ConsD))]) (l' := [.i cells_, .i symbols_, .ints ([] : List Int), .sl 1 o4.length (rowE intsC o4), .sl 9 (([(⟨kd, o1, st, oth, lo, hi, rn, rl, spt⟩ : ConsD)] : List ConsD).length) (rowE consC ([(⟨kd, o1, st, oth, lo, hi, rn, rl, spt⟩ : ConsD)] : List ConsD))]) rfl ⟨(DLe.refl _), (DLe.refl _), DLe.ints_nil, (DLe.refl _), (DLe.refl _), trivial⟩)
   case l6 x27 o0_1 o1 o3_2 o3_3 o4t2 o5 =>
    have h : lineQ_l6 n (lineQ_m cells_ symbols_ kd st oth lo hi rn rl spt n) cells_ symbols_ kd st oth lo hi rn rl spt x27 o0_1 o1 o3_2 o3_3 o4t2 o5 = some r := h
    intro m0 hm0
    refine rd hm0 fun m0 hm0 => ?_
    unfold lineQ_l6 at h
    rcases bifSome h with ⟨c0, h⟩ | ⟨c0, h⟩
    · have p := H0.b 28 c0
      rcases bifSome h with ⟨c1, h⟩ | ⟨c1, h⟩
      · obtain ⟨⟨g0, g1, g2⟩, h⟩ := guardSome h
        have p := p.b 31 c1 |>.w 34 g0 |>.g g1 |>.w 38 g2
        rcases bifSome h with ⟨c2, h⟩ | ⟨c2, h⟩
        · obtain ⟨g3, h⟩ := guardSome h
          obtain ⟨g4, h⟩ := guardSome h
          refine gz (stopAt 15 sch0) [0, 1, 2, 3, 4, 5, 9] (p.b 40 c2 |>.w 43 g2 |>.g g3) [6] (H0.g g4) (atGC (bodyC Tryd.f18) 15 [m0]) (frm 63 [(0, .i cells_), (5, .ref 0 0), (6, .ref 2 0), (7, .ref 3 0), (9, .i x27), (10, .ints (([(x27 - 1)] : List Int) ++ ([(x27 + 1)] : List Int))), (26, .i cells_), (27, .i x27)]) (hp_lineQ_4 kd o0_1 st oth lo hi rn rl spt o1 cells_ symbols_ o3_2 o3_3 o4t2 o5) ?_
          obtain ⟨⟨g5, g6, g7, g8⟩, h⟩ := guardSome h
          exact gg sch0 [0, 10, 2, 3, 4, 8] (H0.a 49 7 1 (rows_build (c := intsC) (L := ([([(x27 - 1)] : List Int) ++ ([(x27 + 1)] : List Int)] : List (List Int))) (vals := [.ints (([(x27 - 1)] : List Int) ++ ([(x27 + 1)] : List Int))]) rfl ⟨⟨_, rfl, ⟨dle_refl, trivial⟩⟩, trivial⟩) |>.g (And.intro (And.intro (And.intro (Eq.refl 0) (Eq.refl 1)) (oneR intsC ([([(x27 - 1)] : List Int) ++ ([(x27 + 1)] : List Int)] : List (List Int)) (([([(x27 - 1)] : List Int) ++ ([(x27 + 1)] : List Int)] : List (List Int)).length) 1 fun _ => ⟨rfl, rfl⟩)) (And.intro (And.intro (Eq.refl 0) g5) g6)) |>.a 50 8 1 (rows_app (enc := (encE intsC)) (L := o5) (L' := ([([(x27 - 1)] : List Int) ++ ([(x27 + 1)] : List Int)] : List (List Int))) rfl rfl fun _ _ _ _ => dle_refl) |>.t |>.g g7 |>.t |>.w 58 g8) (hself _ _ h m0 hm0)
        · refine gz (stopAt 15 sch0) [0, 1, 2, 3, 4, 5, 7] (p.b 40 c2) [6] (H0.g (Eq.refl (([(x27 - 1)] : List Int).length))) (atGC (bodyC Tryd.f18) 15 [m0]) (frm 63 [(0, .i cells_), (5, .ref 0 0), (6, .ref 2 0), (7, .ref 3 0), (9, .i x27), (10, .ints ([(x27 - 1)] : List Int)), (26, .i cells_), (27, .i x27)]) (hp_lineQ_4 kd o0_1 st oth lo hi rn rl spt o1 cells_ symbols_ o3_2 o3_3 o4t2 o5) ?_
          obtain ⟨⟨g3, g4, g5, g6⟩, h⟩ := guardSome h
          exact gg sch0 [0, 10, 2, 3, 4, 8] (H0.a 49 7 1 (rows_build (c := intsC) (L := ([([(x27 - 1)] : List Int)] : List (List Int))) (vals := [.ints ([(x27 - 1)] : List Int)]) rfl ⟨⟨_, rfl, ⟨dle_refl, trivial⟩⟩, trivial⟩) |>.g (And.intro (And.intro (And.intro (Eq.refl 0) (Eq.refl 1)) (oneR intsC ([([(x27 - 1)] : List Int)] : List (List Int)) (([([(x27 - 1)] : List Int)] : List (List Int)).length) 1 fun _ => ⟨rfl, rfl⟩)) (And.intro (And.intro (Eq.refl 0) g3) g4)) |>.a 50 8 1 (rows_app (enc := (encE intsC)) (L := o5) (L' := ([([(x27 - 1)] : List Int)] : List (List Int))) rfl rfl fun _ _ _ _ => dle_refl) |>.t |>.g g5 |>.t |>.w 58 g6) (hself _ _ h m0 hm0)
      · obtain ⟨g0, h⟩ := guardSome h
        have p := p.b 31 c1 |>.w 38 g0
        rcases bifSome h with ⟨c2, h⟩ | ⟨c2, h⟩
        · obtain ⟨g1, h⟩ := guardSome h
          refine gz (stopAt 15 sch0) [0, 1, 2, 3, 4, 5, 7] (p.b 40 c2 |>.w 43 g0 |>.g g1) [6] (H0.g (Eq.refl (([(x27 + 1)] : List Int).length))) (atGC (bodyC Tryd.f18) 15 [m0]) (frm 63 [(0, .i cells_), (5, .ref 0 0), (6, .ref 2 0), (7, .ref 3 0), (9, .i x27), (10, .ints ([(x27 + 1)] : List Int)), (26, .i cells_), (27, .i x27)]) (hp_lineQ_4 kd o0_1 st oth lo hi rn rl spt o1 cells_ symbols_ o3_2 o3_3 o4t2 o5) ?_
          obtain ⟨⟨g2, g3, g4, g5⟩, h⟩ := guardSome h
          exact gg sch0 [0, 10, 2, 3, 4, 8] (H0.a 49 7 1 (rows_build (c := intsC) (L := ([([(x27 + 1)] : List Int)] : List (List Int))) (vals := [.ints ([(x27 + 1)] : List Int)]) rfl ⟨⟨_, rfl, ⟨dle_refl, trivial⟩⟩, trivial⟩) |>.g (And.intro (And.intro (And.intro (Eq.refl 0) (Eq.refl 1)) (oneR intsC ([([(x27 + 1)] : List Int)] : List (List Int)) (([([(x27 + 1)] : List Int)] : List (List Int)).length) 1 fun _ => ⟨rfl, rfl⟩)) (And.intro (And.intro (Eq.refl 0) g2) g3)) |>.a 50 8 1 (rows_app (enc := (encE intsC)) (L := o5) (L' := ([([(x27 + 1)] : List Int)] : List (List Int))) rfl rfl fun _ _ _ _ => dle_refl) |>.t |>.g g4 |>.t |>.w 58 g5) (hself _ _ h m0 hm0)
        · obtain ⟨⟨g1, g2, g3⟩, h⟩ := guardSome h
          exact gg sch0 [0, 9, 2, 3, 4, 7] (p.b 40 c2 |>.a 49 6 1 (rows_build (c := intsC) (L := ([([] : List Int)] : List (List Int))) (vals := [.nils]) rfl ⟨⟨_, rfl, ⟨DLe.ints_nil, trivial⟩⟩, trivial⟩) |>.g (And.intro (And.intro (And.intro (Eq.refl 0) (by decide : 1 = ([([] : List Int)] : List (List Int)).length)) (oneR intsC ([([] : List Int)] : List (List Int)) (([([] : List Int)] : List (List Int)).length) 1 fun _ => ⟨rfl, rfl⟩)) (And.intro (And.intro (Eq.refl 0) g1) g2)) |>.a 50 7 1 (rows_app (enc := (encE intsC)) (L := o5) (L' := ([([] : List Int)] : List (List Int))) rfl rfl fun _ _ _ _ => dle_refl) |>.t |>.g g3 |>.t |>.w 58 g0) (hself _ _ h m0 hm0)
    · obtain ⟨g0, h⟩ := guardSome h
      refine gz (stopAt 18 sch0) [0, 1, 2, 3, 4, 5] (H0.b 28 c0) [1] (H0.g g0) (atGC (bodyC Tryd.f18) 18 []) (frm 63 [(5, .ref 0 0), (6, .ref 2 0), (7, .ref 3 0)]) (hp_lineQ_5 kd o1 st oth lo hi rn rl spt cells_ symbols_ o3_2 o3_3 o4t2 o5) ?_
      obtain ⟨⟨g1, g2⟩, h⟩ := guardSome h
      cases h
      exact ez sch0 [6] [2, 4, 5, 6] (H0.a 60 6 9 (rows_build (c := consC) (L := ([(⟨kd, o1, st, oth, lo, hi, rn, rl, spt⟩ : ConsD)] : List ConsD)) (vals := [.agg 9 (L1 [.i kd, .ints o1, .i st, .i oth, .i lo, .i hi, .ints rn, .i rl, .i spt])]) rfl ⟨⟨_, rfl, ⟨dle_refl, dle_refl, dle_refl, dle_refl, dle_refl, dle_refl, dle_refl, dle_refl, dle_refl, trivial⟩⟩, trivial⟩) |>.t |>.t) [1, 2, 3] (H0.g g1 |>.g g2 |>.g (Eq.refl 1))
theorem lineQ_ok {n : Nat} {cells_ symbols_ kd st oth lo hi : Int} {rn : List Int} {rl spt : Int} {r : ProbD} (h : lineQ n cells_ symbols_ kd st oth lo hi rn rl spt = some r) : ES Tryd.prog GG 18 [.i cells_, .i symbols_, .agg 9 (L1 [.i kd, .nils, .i st, .i oth, .i lo, .i hi, .ints rn, .i rl, .i spt])] [] (.agg 5 (L1 (probC r))) [] true := by
  refine ot Tryd.func18 fun B N => ?_
  have hself := lineQ_all B N cells_ symbols_ kd st oth lo hi rn rl spt n
  unfold lineQ at h
  unfold lineQ_l0 at h
  exact gg sch0 [0, 1, 2] (H0.t) (en n (hself _ _ h n (Nat.le_refl _)))
end Go.Proofs.YtekkngkphejfcaaDoor
namespace Go.Proofs.YtekkngkphejfcaaDoor
open Go.RowKit
set_option maxRecDepth 100000
set_option maxHeartbeats 40000000
def backM_l0 (n : Nat) (s_ : List Int) : Option Unit :=
  some ()
def backM (n : Nat) (s_ : List Int) : Option Unit := backM_l0 n s_
theorem backM_ok {n : Nat} (s_ : List Int) {r : Unit} (h : backM n s_ = some r) : ES Tryd.prog GG 61 [.ints s_] [] (.fn 73 1 (L1 [.ref 0 0])) [some (.cells [.ints s_])] true := by
  refine ot Tryd.func61 fun B N => ?_
  unfold backM at h
  unfold backM_l0 at h
  cases h
  exact ee sch0 [2] [0] H0
inductive backPt where
  | l1 (x3 : Int)
def back_l1 (n : Nat) (self : backPt → Option (List (Int × Int))) (s_ : List Int) (x3 : Int) : Option (List (Int × Int)) :=
  bif (decide (x3 ≥ 0)) then
   if 0 ≤ x3 ∧ x3 < (s_.length : Int) then
    Option.map (fun l => (x3, s_.getD ((x3).toNat) 0) :: l) (
     if R64 (x3 - 1) then
      self (.l1 (x3 - 1))
     else none)
   else none
  else
   some []
def back_l0 (n : Nat) (self : backPt → Option (List (Int × Int))) (s_ : List Int) : Option (List (Int × Int)) :=
  if R64 ((s_.length : Int) - 1) then
   self (.l1 ((s_.length : Int) - 1))
  else none
def back_m (s_ : List Int) : Nat → backPt → Option (List (Int × Int))
  | 0, _ => none
  | n + 1, .l1 x3 => back_l1 n (back_m s_ n) s_ x3
def back (n : Nat) (s_ : List Int) : Option (List (Int × Int)) := back_l0 n (back_m s_ n) s_
/-- What the points stand for. -/
def back_at (C : ItC Tryd.prog GG) (n : Nat) (s_ : List Int) (r : List (Int × Int)) : backPt → Prop
  | .l1 x3 => ∀ m0 : Nat, n ≤ m0 → ∀ i : Nat, i ≤ C.encs.length → C.encs.drop i = r.map encII → TrG Tryd.prog GG Fence.wide none 1 (C.Y 1 i) (C.Q 1) (toN m0 (atNC (bodyC Tryd.f73) 0 [])) ⟨frm 19 [(0, .yl C.l), (1, .ref 0 0), (3, .i x3)], [some (.cells [.ints s_])]⟩
theorem back_p1 (C : ItC Tryd.prog GG) (n : Nat) (self : backPt → Option (List (Int × Int))) (s_ : List Int) (hself : ∀ pt r, self pt = some r → back_at C n s_ r pt) (x3 : Int) (r : List (Int × Int)) (h : back_l1 n self s_ x3 = some r) : back_at C (n + 1) s_ r (.l1 x3) := by
  intro m0 hm0
  intro i hi hd
  refine rd hm0 fun m0 hm0 => ?_
  unfold back_l1 at h
  rcases bifSome h with ⟨c0, h⟩ | ⟨c0, h⟩
  · refine gs (stopAt 3 sch0) [0] (H0.b 8 c0) (atGC (bodyC Tryd.f73) 3 [m0]) (frm 19 [(0, .yl C.l), (1, .ref 0 0), (3, .i x3)]) [some (.cells [.ints s_])] ?_
    obtain ⟨g0, h⟩ := guardSome h
    obtain ⟨r, h2, rfl⟩ := mapSome h
    clear h
    have h := h2
    clear h2
    obtain ⟨hx, hi, hd⟩ := dropCons hd
    refine TrG.y (ops := regF Tryd.f73 3) HC.x 6 [0, 1, 3, 18] [0] (H0.g g0) (x := encII (x3, s_.getD ((x3).toNat) 0)) (frm 19 [(0, .yl C.l), (1, .ref 0 0), (3, .i x3), (18, .bool false)]) [some (.cells [.ints s_])] (frm 19 [(0, .yl C.l), (1, .ref 0 0), (3, .i x3), (18, .bool true)]) [some (.cells [.ints s_])] (by kernel_rfl) (by kernel_rfl) (by kernel_rfl) hx (by kernel_rfl) ?_ ?_
    · generalize i + 1 = i at hi hd ⊢
      obtain ⟨g1, h⟩ := guardSome h
      exact gg sch0 [0] (H0.w 10 g1) (hself _ _ h m0 hm0 i hi hd)
    · exact TrI.e HC.x sch0 6 H0 (by kernel_rfl) (.inr rfl)
  · cases h
    exact TrI.e HC.x sch0 10 (H0.b 8 c0) (by kernel_rfl) (.inl (by rw [dropNil hi hd]))
theorem back_all (C : ItC Tryd.prog GG) (s_ : List Int) : ∀ (n : Nat) (pt : backPt) (r : List (Int × Int)), back_m s_ n pt = some r → back_at C n s_ r pt
  | 0, _, _, h => by cases h
  | n + 1, .l1 x3, r, h => back_p1 C n (back_m s_ n) s_ (back_all C s_ n) x3 r h
theorem back_it {n : Nat} (s_ : List Int) {r : List (Int × Int)} (h : back n s_ = some r) (C : ItC Tryd.prog GG) (hC : C.encs = r.map encII) : TrG Tryd.prog GG Fence.wide none 1 (C.Y 1 0) (C.Q 1) [.code (bodyC Tryd.f73)] ⟨frm 19 [(0, .yl C.l), (1, .ref 0 0)], [some (.cells [.ints s_])]⟩ := by
  suffices H : ∀ i : Nat, i ≤ C.encs.length → C.encs.drop i = r.map encII → TrG Tryd.prog GG Fence.wide none 1 (C.Y 1 i) (C.Q 1) [.code (bodyC Tryd.f73)] ⟨frm 19 [(0, .yl C.l), (1, .ref 0 0)], [some (.cells [.ints s_])]⟩ from H 0 (Nat.zero_le _) (by rw [List.drop_zero]; exact hC)
  intro i hi hd
  have hself := back_all C s_ n
  unfold back at h
  generalize back_m s_ n = self at h hself
  unfold back_l0 at h
  obtain ⟨g0, h⟩ := guardSome h
  exact gg sch0 [0] (H0.w 6 g0) (en n (hself _ _ h n (Nat.le_refl _) i hi hd))
theorem backM_iter {n : Nat} {s_ : List Int} {r : List (Int × Int)} (h : back n s_ = some r) (H : DH) : ES Tryd.prog GG 61 [.ints s_] H (.it H.length) (H ++ [some (.iter (r.map encII))]) true := by
  refine ES.iterN (c := L1 [.ref 0 0]) (h0 := [some (.cells [.ints s_])]) (fn := Tryd.f73) (backM_ok (n := 0) s_ (r := ()) rfl) (by kernel_rfl) Tryd.func73 (by kernel_rfl) (by kernel_rfl) (by kernel_rfl) (fun C hC => ?_) H
  have e : DV.yl C.l :: (List.range 1).map (L1 [.ref 0 0]) ++ List.replicate (Tryd.f73.ntmps - (1 + 1)) .any = frm 19 [(0, .yl C.l), (1, .ref 0 0)] := by kernel_rfl
  rw [e]
  exact back_it s_ h C hC
end Go.Proofs.YtekkngkphejfcaaDoor
