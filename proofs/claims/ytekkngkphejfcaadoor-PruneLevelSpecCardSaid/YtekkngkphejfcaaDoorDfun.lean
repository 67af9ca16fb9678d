/- Functions on the plainer view: from a body's triple to the function's contract; contracts within larger states. -/
import Derived.Test.YtekkngkphejfcaaDoorDtr
namespace Go.Proofs.YtekkngkphejfcaaDoor
open Go.RowKit

def resOne (P : Program) (S : St) : ResultVar → Option DV
  | .tmp t => some (S.fr.getD t .any)
  | .cell x t => match S.fr.getD x .any with
    | .ref k j => match loadD P S t (.ref k j) with
      | some (d, _) => some d
      | none => none
    | _ => none
def resL (P : Program) (S : St) : List ResultVar → Option (List DV)
  | [] => some []
  | r :: rs => match resOne P S r with
    | some d => match resL P S rs with
      | some ds => some (d :: ds)
      | none => none
    | none => none
def tupD : List DV → DV
  | [d] => d
  | ds => .tup ds.length fun j => ds.getD j .any

section
variable {P : Program} {Γ : Glo} {N : Nat → Prop} {S : St} {ρ : List Place} {a : Act} {w : World}

theorem load_ref_triv {t : TypeId} {k j : Nat} {d : DV} {vc : Prop} (h : loadD P S t (.ref k j) = some (d, vc)) : vc := by
  unfold loadD at h
  repeat' (split at h)
  all_goals first | (cases h; trivial) | (cases h; done) | (simp_all; done)

def resRun (tmps : Array Value) : ResultVar → Sem Value
  | .tmp t => pure (tmps.getD t undef)
  | .cell x t => do loadVar t (← asAddr (tmps.getD x undef))
theorem resL_run (R : Rel P Γ N S ρ a w) : ∀ (rs : List ResultVar) (ds : List DV), resL P S rs = some ds → ∃ vs : List Value, (rs.mapM (resRun a.tmps)).run P w = .ok vs w ∧ vs.length = ds.length ∧ ∀ i, i < ds.length → RepV (MS N S.h ρ) w (ds.getD i .any) ρ (vs.getD i undef)
  | [], ds, h => by
    cases h
    exact ⟨[], rfl, rfl, fun i hi => absurd hi (Nat.not_lt_zero i)⟩
  | r :: rs, ds, h => by
    simp only [resL] at h
    split at h
    · rename_i d hd
      split at h
      · rename_i ds' hds
        cases h
        obtain ⟨vs, h1, h2, h3⟩ := resL_run R rs ds' hds
        obtain ⟨v, g1, g2⟩ : ∃ v, (resRun a.tmps r).run P w = .ok v w ∧ RepV (MS N S.h ρ) w d ρ v := by
          unfold resOne at hd
          split at hd
          · cases hd; exact ⟨_, rfl, R.fr.at _⟩
          · rename_i x t
            split at hd
            · rename_i k j e
              split at hd
              · rename_i d' vc hl
                cases hd
                have hx := R.fr.at x
                rw [e] at hx
                obtain ⟨v, q1, q2⟩ := loadD_sound R hx hl (load_ref_triv hl)
                obtain ⟨p, hp, hv⟩ := hx
                have q := q1 w (Keep.ofExt (Ext.refl w))
                rw [hv, run_loadAt] at q
                refine ⟨v, ?_, q2⟩
                show (do loadVar t (← asAddr (a.tmps.getD x undef)) : Sem Value).run P w = _
                rw [hv]
                exact q
              · cases hd
            · cases hd
        refine ⟨v :: vs, ?_, by simp [h2], fun i hi => ?_⟩
        · rw [List.mapM_cons, Sem.run_bind, g1]
          simp only [Result.andThen, Sem.run_bind, h1, Sem.run_pure]
        · cases i with
          | zero => exact g2
          | succ i => exact h3 i (by simpa using hi)
      · cases h
    · cases h

theorem results_run (R : Rel P Γ N S ρ a w) {fn : Func} {ds : List DV} (h : resL P S fn.results.toList = some ds) : ∃ v, (results fn a.tmps).run P w = .ok v w ∧ RepV (MS N S.h ρ) w (tupD ds) ρ v := by
  obtain ⟨vs, h1, h2, h3⟩ := resL_run R _ _ h
  have hm : (fn.results.mapM (resRun a.tmps)).run P w = .ok vs.toArray w := by
    rw [Array.mapM_eq_mapM_toList, ← bind_pure_comp, Sem.run_bind, h1]
    rfl
  have hres : (results fn a.tmps).run P w = .ok (if h : vs.toArray.size = 1 then vs.toArray[0] else .tuple vs.toArray) w := by
    show (do let vs ← fn.results.mapM (resRun a.tmps); pure (if h : vs.size = 1 then vs[0] else .tuple vs) : Sem Value).run P w = _
    rw [Sem.run_bind, hm]
    rfl
  refine ⟨_, hres, ?_⟩
  match ds, vs, h2, h3 with
  | [], [], _, _ => exact ⟨#[], rfl, rfl, fun j hj => absurd hj (Nat.not_lt_zero j)⟩
  | [d], [v], _, h3 => exact h3 0 (by simp)
  | d :: d' :: ds, v :: v' :: vs, h2, h3 =>
    have : ¬ ((v :: v' :: vs).toArray.size = 1) := by simp
    rw [dif_neg this]
    refine ⟨_, rfl, by simpa using h2, fun j hj => ?_⟩
    have hj' : j < (v :: v' :: vs).length := by rw [h2]; exact hj
    exact ⟨(v :: v' :: vs).getD j undef, by simp only [List.getElem?_toArray, List.getD_eq_getElem?_getD, List.getElem?_eq_getElem hj']; rfl, h3 j hj⟩

def noIter (h : DH) : Prop := ∀ (k : Nat) (encs : List (Array Value)), h[k]? ≠ some (some (.iter encs))
/-- Behind the marks. -/
theorem Rel.shut (R : Rel P Γ N S ρ a w) (hi : noIter S.h) {B : Nat} (hB : Γ.ng ≤ B) {W : World} (hs : Shut B w W) : Rel P Γ N S ρ a W := by
  have nc : ∀ {b : Nat}, Lies w b → W.heap[b]? = w.heap[b]? := fun {b} ⟨c, t, z, h⟩ =>
    hs.block b (Array.getElem?_eq_some_iff.1 h).1 fun hx => by rw [h] at hx; cases hx.2; cases t
  have O : Outl (MS N S.h ρ) w ρ (MS N S.h ρ) W ρ := ⟨fun b _ _ ⟨_, _, _, hc⟩ => nc (.cells hc), fun b h => .inl h, fun _ _ h => h⟩
  have hr : ∀ {p : Place} {n : Nat} {Rw : Nat → Value → Prop}, RowAt w p n Rw → W.heap[p.blk]? = w.heap[p.blk]? := fun {p n Rw} h => by
    obtain ⟨_, cs, t, h2, _⟩ := h
    exact nc (.cells h2)
  refine ⟨⟨R.hr.len, fun k o hk => ?_, fun k o p b h1 h2 h3 => ?_, R.hr.dis, fun b hb => ⟨Nat.lt_of_lt_of_le (R.hr.nlt b hb).1 hs.size, (R.hr.nlt b hb).2⟩, Γ.st _ _ R.hr.gi (hs.mono fun i _ hx => Nat.le_trans hB hx.1)⟩, R.fr.out O⟩
  · obtain ⟨p, hp, ho⟩ := R.hr.obj k o hk
    refine ⟨p, hp, ?_⟩
    cases o with
    | cells l => exact RowAt.out ho (hr ho) fun j u _ hu => RepV.out _ O hu
    | ints l => exact RowAt.out ho (hr ho) fun j u _ hu => hu
    | bools l => exact RowAt.out ho (hr ho) fun j u _ hu => hu
    | arr m n f => exact RowAt.out ho (hr ho) fun j u _ hu => RepV.out _ O.nil hu
    | iter encs => exact absurd hk (hi k encs)
    | mo x => exact MXRep.out ho fun b hb hlt => nc (R.hr.cel k _ p b hk hp hb).2.2
  · obtain ⟨g1, g2, c, t, z, g3⟩ := R.hr.cel k o p b h1 h2 h3
    exact ⟨g1, g2, c, t, z, (nc ⟨c, t, z, g3⟩).trans g3⟩
theorem Step.shut {h0 h : DH} {ρ0 ρ : List Place} {w0 w W : World} (st : Step h0 ρ0 w0 h ρ w) (hs : Shut w0.heap.size w W) : Step h0 ρ0 w0 h ρ W :=
  ⟨st.upd.comp hs fun i hi hx => absurd hx.1 (by omega), st.grow⟩

theorem FrRep.anys (M : Nat → Prop) (w : World) (ρ : List Place) (n : Nat) : FrRep M w ρ (List.replicate n .any) (Array.replicate n undef) :=
  ⟨by simp, fun i hi => by
    have : (List.replicate n DV.any).getD i .any = .any := by
      rw [List.getD_eq_getElem?_getD, List.getElem?_replicate]; split <;> rfl
    rw [this]; trivial⟩

/-- Without references. -/
def Nref (d : DV) : Prop := ∀ (M : Nat → Prop) (w : World) (ρ : List Place) (v : Value), RepV M w d ρ v → RepV M w d [] v
/-- What a function hands out: its objects are those of h', or the first L of what there is. -/
def FinOut (L : Nat) (S : St) (rs : List DV) (d : DV) (h' : DH) : Prop :=
  (DLe (tupD rs) d ∧ S.h = h') ∨ (noIter S.h ∧ DLe (tupD rs) d ∧ Nref d ∧ L ≤ S.h.length ∧ (compactX (List.range L) S).h = h')
/-- A function's end. -/
def Fin (P : Program) (fn : Func) (L : Nat) (d : DV) (h' : DH) (e : Exit) (S' : St) : Prop :=
  (e = .normal ∨ e = .ret) ∧ ∃ S'', SLe L S' S'' ∧ ∃ rs, resL P S'' fn.results.toList = some rs ∧ FinOut L S'' rs d h'

theorem ES.of_tr {f : Nat} {fn : Func} {c : Code} {ds : List DV} {h : DH} {d : DV} {h' : DH} {ext : Bool} (hf : P.funcs[f]? = some fn) (hb : fn.body = some c) (hname : fn.name ≠ "runtime.NumGoroutine") (hni : noIter h')
    (H : ∀ (B : Nat) (N : Yard P Γ h.length), Tr P Γ Fence.wide (some B) h.length N c ⟨ds ++ List.replicate (fn.ntmps - ds.length) .any, h⟩ (fun e S Y => Y = N ∧ Fin P fn h.length d h' e S)) (hext : ext = true → h = []) : ES P Γ f ds h d h' ext := by
  refine ⟨⟨fn, hf, hname, by rw [hb]; rfl⟩, fun N ρ w args HR hargs => ?_⟩
  refine calls_marks w.heap.size hf hb ?_
  have hlen : ds.length = args.size := hargs.1
  have R : Rel P Γ N ⟨ds ++ List.replicate (fn.ntmps - ds.length) .any, h⟩ ρ { tmps := args ++ Array.replicate (fn.ntmps - args.size) undef, defers := [] } w :=
    ⟨HR, FrRep.append hargs (by rw [hlen]; exact FrRep.anys _ _ _ _)⟩
  have := H w.heap.size (startY P Γ h.length N h ρ w) N ρ _ w R ⟨rfl, Step.refl _ _ _, Kept.refl _ _⟩ trivial (Bd.wide (Nat.le_refl _))
  refine wpIn_wide.1 (wpIn_mono this ?_)
  rintro e a' w' ⟨S', ρ', N', Y', h1, h2, h3, h4, h5⟩
  have key : Y' = startY P Γ h.length N h ρ w → Fin P fn h.length d h' e S' → Marks w.heap.size a'.defers w' ∧ ∀ W, Shut w.heap.size w' W → ∃ v, (results fn a'.tmps).run P W = .ok v W ∧ ∃ v', Ending.returned v = .returned v' ∧ Got P Γ N h ρ w ext d h' v' W := by
    rintro rfl ⟨_, S'', hle, rs, hrs, hd | ⟨hi, hd, hn, hl, hh⟩⟩
    all_goals
      obtain ⟨e0, h3, h5⟩ := h3
      have e0 := e0.symm
      subst e0
    · obtain ⟨hd, rfl⟩ := hd
      refine ⟨h4, fun W hW => ?_⟩
      obtain ⟨ρ'', R'', st'', k''⟩ := hle P Γ N ρ' a' w' h2
      have RW := R''.shut hni (Γ.lo _ HR.gi) hW
      obtain ⟨v, g1, g2⟩ := results_run RW hrs
      have st : Step h ρ w S''.h ρ'' W := (h3.trans st'').shut hW
      refine ⟨v, g1, v, rfl, ⟨⟨ρ'', RW.hr, hd _ _ _ _ g2, st, fun k p hp => ?_⟩, fun he => ?_⟩⟩
      · have hk : k < h.length := by rw [← HR.len]; exact (List.getElem?_eq_some_iff.1 hp).1
        exact k'' k p hk (h5 k p hk hp)
      · have := hext he
        subst this
        exact st.upd.toExt fun i _ ⟨k, o, p, q1, _⟩ => by simp at q1
    · refine ⟨h4, fun W hW => ?_⟩
      obtain ⟨ρ'', R'', st'', k''⟩ := hle P Γ N ρ' a' w' h2
      have RW := R''.shut hi (Γ.lo _ HR.gi) hW
      obtain ⟨v, g1, g2⟩ := results_run RW hrs
      have st : Step h ρ w S''.h ρ'' W := (h3.trans st'').shut hW
      obtain ⟨ρ3, R3, st3, k3⟩ := SLe.compact (L := h.length) (List.range h.length) S'' List.nodup_range (fun k hk => Nat.lt_of_lt_of_le (List.mem_range.1 hk) hl) (fun k hk => by simp [hk]) P Γ N ρ'' a' W RW
      rw [hh] at st3
      have R3h := R3.hr
      rw [hh] at R3h
      refine ⟨v, g1, v, rfl, ⟨⟨ρ3, R3h, ?_, st.trans st3, fun k p hp => ?_⟩, fun he => ?_⟩⟩
      · have r0 := hn _ _ _ _ (hd _ _ _ _ g2)
        have r1 : RepV (MS N h' ρ3) W d [] v := RepV.out _ ⟨fun _ _ _ _ => rfl, fun b hb => hb.elim (fun hx => .inl (.inl hx)) fun hx => (st3.grow b hx).imp .inr id, fun _ _ hx => by simp at hx⟩ r0
        exact RepV.out _ ⟨fun _ _ _ _ => rfl, fun b hb => .inl hb, fun _ _ hx => by simp at hx⟩ r1
      · have hk : k < h.length := by rw [← HR.len]; exact (List.getElem?_eq_some_iff.1 hp).1
        exact k3 k p hk (k'' k p hk (h5 k p hk hp))
      · have := hext he
        subst this
        exact (st.trans st3).upd.toExt fun i _ ⟨k, o, p, q1, _⟩ => by simp at q1
  cases e with
  | normal => exact key h1.1 h1.2
  | ret => exact key h1.1 h1.2
  | exit id => exact absurd h1.2.1 (by simp)
  | goto t => exact absurd h1.2.1 (by simp)
  | panic ch => exact h1.elim
  | outgrown => exact h1.elim

def Scal (d : DV) : Prop := ∀ (M M' : Nat → Prop) (w w' : World) (ρ ρ' : List Place) (v : Value), RepV M w d ρ v → RepV M' w' d ρ' v
theorem Nref.plain {d : DV} (h : plainC d = true) : Nref d := fun _ _ _ _ hr => plainC_nil h hr
theorem Nref.fp (m : Nat) (f : Nat → DV) : Nref (.fp m f) := fun _ _ _ _ h => h
theorem Nref.any : Nref .any := fun _ _ _ _ h => h
theorem Nref.agg {m : Nat} {f : Nat → DV} (h : ∀ j, j < m → Nref (f j)) : Nref (.agg m f) := fun M w ρ _ ⟨cs, e, hs, hc⟩ => ⟨cs, e, hs, fun j hj => let ⟨u, h1, h2⟩ := hc j hj; ⟨u, h1, h j hj M w ρ u h2⟩⟩
theorem Nref.tup {m : Nat} {f : Nat → DV} (h : ∀ j, j < m → Nref (f j)) : Nref (.tup m f) := fun M w ρ _ ⟨cs, e, hs, hc⟩ => ⟨cs, e, hs, fun j hj => let ⟨u, h1, h2⟩ := hc j hj; ⟨u, h1, h j hj M w ρ u h2⟩⟩
theorem Scal.int (k : IntKind) (n : Int) : Scal (.int k n) := fun _ _ _ _ _ _ _ h => h
theorem Scal.bool (b : Bool) : Scal (.bool b) := fun _ _ _ _ _ _ _ h => h
theorem Scal.tup {m : Nat} {f : Nat → DV} (h : ∀ j, j < m → Scal (f j)) : Scal (.tup m f) := fun M M' w w' ρ ρ' _ ⟨cs, e, hs, hc⟩ => ⟨cs, e, hs, fun j hj => let ⟨u, h1, h2⟩ := hc j hj; ⟨u, h1, h j hj M M' w w' ρ ρ' u h2⟩⟩

theorem hrel_nil {M : Nat → Prop} (hM : ∀ b, M b → b < w.heap.size ∧ Γ.ng ≤ b) (hg : Γ.gi w) : HRel P Γ M [] [] w :=
  ⟨rfl, fun k o hk => by simp at hk, fun k o p b h1 => by simp at h1, fun k k' o o' p p' b _ h1 => by simp at h1, hM, hg⟩
theorem MS_nil {M : Nat → Prop} {b : Nat} : MS M [] [] b ↔ M b := ⟨fun h => h.elim id fun ⟨k, o, p, h1, _⟩ => by simp at h1, .inl⟩

/-- A contract in an empty state holds within any. -/
theorem ES.frame {f : Nat} {ds : List DV} {d : DV} (h0 : ES P Γ f ds [] d [] true) (hds : ∀ x ∈ ds, Nref x) (h : DH) : ES P Γ f ds h d h true := by
  refine ⟨h0.1, fun N ρ w args HR hargs => ?_⟩
  refine (h0.2 (MS N h ρ) [] w args (hrel_nil (fun b hb => HR.lt2 hb) HR.gi) ⟨hargs.1, fun i hi => ?_⟩).mono ?_
  · have hx := hds (ds.getD i .any) (by simp [hi])
    exact RepV.out _ (out_iff (fun b hb => MS_nil.1 hb) []) (hx _ _ _ _ (hargs.2 i hi))
  · rintro e w' ⟨v, rfl, ⟨⟨ρ', g1, g2, g3, g4⟩, g5⟩⟩
    have hE := g5 rfl
    have hρ : ρ' = [] := List.eq_nil_of_length_eq_zero (by rw [g1.len]; rfl)
    subst hρ
    exact ⟨v, rfl, ⟨⟨ρ, HR.ext hE, rep_nil (RepV.out _ (out_iff (fun b hb => MS_nil.2 hb) []) g2), Step.ext hE, fun _ _ h => h⟩, g5⟩⟩
/-- .. also one that makes an object. -/
theorem ES.frameNew {f : Nat} {ds : List DV} {m n : Nat} {o : DO} (ho : ∀ l, o ≠ .cells l) (ho2 : ∀ encs, o ≠ .iter encs) (h0 : ES P Γ f ds [] (.msl 0 m 0 n) [some o] true) (hds : ∀ x ∈ ds, Nref x) (h : DH) : ES P Γ f ds h (.msl h.length m 0 n) (h ++ [some o]) true := by
  refine ⟨h0.1, fun N ρ w args HR hargs => ?_⟩
  refine (h0.2 (MS N h ρ) [] w args (hrel_nil (fun b hb => HR.lt2 hb) HR.gi) ⟨hargs.1, fun i hi => ?_⟩).mono ?_
  · have hx := hds (ds.getD i .any) (by simp [hi])
    exact RepV.out _ (out_iff (fun b hb => MS_nil.1 hb) []) (hx _ _ _ _ (hargs.2 i hi))
  · rintro e w' ⟨v, rfl, ⟨⟨ρ', g1, g2, g3, g4⟩, g5⟩⟩
    have hE := g5 rfl
    obtain ⟨p, hp, hob⟩ := g1.obj 0 o rfl
    have hf : ∀ b, p.foot b → w.heap.size ≤ b := fun b hb => (g3.grow b ⟨0, o, p, rfl, hp, hb⟩).resolve_left fun ⟨k, o', p', q1, _⟩ => by simp at q1
    have hM : ∀ b, MS N (h ++ [some o]) (ρ ++ [p]) b → MS (MS N h ρ) [some o] ρ' b := fun b hb => by
      rcases hb with hb | hb
      · exact .inl (.inl hb)
      · rcases MO.snoc HR hb with hb | hb
        · exact .inl (.inr hb)
        · exact .inr ⟨0, o, p, rfl, hp, hb⟩
    obtain ⟨p', cap, hp', e1, e2, e3, e4⟩ := g2
    have ep : p' = p := Option.some.inj (hp'.symm.trans hp)
    subst ep
    refine ⟨v, rfl, ⟨⟨ρ ++ [p'], HR.snoc hE (fun b hb => ⟨hf b hb, (g1.cel 0 o p' b rfl hp hb).2.2⟩) ?_, ⟨p', cap, by rw [← HR.len]; simp, e1, e2, e3, e4⟩, Step.snoc HR hE hf, fun _ _ h => get_snoc_left h⟩, g5⟩⟩
    cases o with
    | cells l => exact absurd rfl (ho l)
    | ints l => exact RowAt.out hob rfl fun j u _ hu => hu
    | bools l => exact RowAt.out hob rfl fun j u _ hu => hu
    | arr m n f => exact RowAt.out hob rfl fun j u _ hu => RepV.out _ (out_iff hM []) hu
    | iter encs => exact absurd rfl (ho2 encs)
    | mo x => exact hob

/-- What a value of the view is read as by who only looks. -/
def Snap (h : DH) (d d0 : DV) : Prop := ∀ (P : Program) (Γ : Glo) (N : Nat → Prop) (ρ : List Place) (w : World) (v : Value), HRel P Γ N h ρ w → RepV (MS N h ρ) w d ρ v → RepV (fun _ => False) w d0 [] v
theorem Snap.nref {h : DH} {d : DV} (hn : Nref d) : Snap h d d := fun _ _ _ _ _ _ _ hr => RepV.out _ (out_iff (fun _ hb => hb.elim) []) (hn _ _ _ _ hr)
theorem Snap.ints {h : DH} {k n : Nat} {l : List Int} (hk : h[k]? = some (some (.ints l))) (hn : n = l.length) : Snap h (.msl k 1 0 n) (.ints l) := by
  rintro P Γ N ρ w v H ⟨p, cap, hp, e, g1, g2, _⟩
  subst hn
  obtain ⟨p', hp', hr⟩ := H.obj k _ hk
  have ep : p' = p := Option.some.inj (hp'.symm.trans hp)
  subst ep
  refine ⟨_, cap, e, g1, g2, fun j hj => ⟨p'.blk, p'.off, by simp, id, ?_⟩⟩
  obtain ⟨u, e1, e2⟩ := RowAt.cell hr hj
  rw [e1, e2]
theorem Snap.bools {h : DH} {k n : Nat} {l : List Bool} (hk : h[k]? = some (some (.bools l))) (hn : n = l.length) : Snap h (.msl k 1 0 n) (.bools l) := by
  rintro P Γ N ρ w v H ⟨p, cap, hp, e, g1, g2, _⟩
  subst hn
  obtain ⟨p', hp', hr⟩ := H.obj k _ hk
  have ep : p' = p := Option.some.inj (hp'.symm.trans hp)
  subst ep
  refine ⟨_, cap, e, g1, g2, fun j hj => ⟨p'.blk, p'.off, by simp, id, ?_⟩⟩
  obtain ⟨u, e1, e2⟩ := RowAt.cell hr hj
  rw [e1, e2]
theorem Snap.ref {h : DH} {k m : Nat} {l : List DV} {f : Nat → DV} (hk : h[k]? = some (some (.cells l))) (hm : m ≤ l.length) (hf : ∀ j, j < m → Snap h (l.getD j .any) (f j)) : Snap h (.ref k 0) (.fp m f) := by
  rintro P Γ N ρ w v H ⟨p, hp, e⟩
  obtain ⟨p', hp', hr⟩ := H.obj k _ hk
  have ep : p' = p := Option.some.inj (hp'.symm.trans hp)
  subst ep
  refine ⟨p'.blk, p'.off, e, fun j hj => ⟨id, ?_⟩⟩
  obtain ⟨u, e1, e2⟩ := RowAt.cell hr (j := j) (by omega)
  exact ⟨u, e1, hf j hj P Γ N ρ w u H e2⟩
/-- A contract about lists, used where rows stand; it yields numbers. -/
theorem ES.snap {f : Nat} {ds ds0 : List DV} {d : DV} (h0 : ES P Γ f ds0 [] d [] true) (h : DH) (hl : ds0.length = ds.length) (hs : ∀ i, i < ds.length → Snap h (ds.getD i .any) (ds0.getD i .any)) (hd : Scal d) : ES P Γ f ds h d h true := by
  refine ⟨h0.1, fun N ρ w args HR hargs => ?_⟩
  refine (h0.2 (fun _ => False) [] w args (hrel_nil (fun b hb => hb.elim) HR.gi) ⟨by rw [hl]; exact hargs.1, fun i hi => ?_⟩).mono ?_
  · rw [hl] at hi
    exact RepV.out _ (out_iff (fun b hb => MS_nil.1 hb) []) (hs i hi P Γ N ρ w _ HR (hargs.2 i hi))
  · rintro e w' ⟨v, rfl, ⟨⟨ρ', g1, g2, g3, g4⟩, g5⟩⟩
    have hE := g5 rfl
    exact ⟨v, rfl, ⟨⟨ρ, HR.ext hE, hd _ _ _ _ _ _ _ g2, Step.ext hE, fun _ _ h => h⟩, g5⟩⟩
end
end Go.Proofs.YtekkngkphejfcaaDoor
