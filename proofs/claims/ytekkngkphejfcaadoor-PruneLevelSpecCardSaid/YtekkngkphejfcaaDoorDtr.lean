/- Triples on the plainer view: statements, loops, functions. -/
import Derived.Test.YtekkngkphejfcaaDoorDcode
namespace Go.Proofs.YtekkngkphejfcaaDoor
open Go.RowKit

/-- The first L places are kept. -/
def Kept (L : Nat) (ρ ρ' : List Place) : Prop := ∀ (k : Nat) (p : Place), k < L → ρ[k]? = some p → ρ'[k]? = some p
theorem Kept.refl (L : Nat) (ρ : List Place) : Kept L ρ ρ := fun _ _ _ h => h
theorem Kept.trans {L : Nat} {a b c : List Place} (h : Kept L a b) (k : Kept L b c) : Kept L a c := fun i p hi hp => k i p hi (h i p hi hp)

/-- Where the walk stands: behind B, in a round whose record lies. -/
structure Bd (F : Fence) (B : Option Nat) (w : World) : Prop where
  le : ∀ b, B = some b → b ≤ w.heap.size
  rd : ∀ l, F.round = some l → ∃ r, w.heap[l]? = some (.loop r)
theorem Bd.step {P : Program} {Γ : Glo} {N : Nat → Prop} {h h' : DH} {ρ ρ' : List Place} {F : Fence} {B : Option Nat} {w w' : World} (b : Bd F B w) (H : HRel P Γ N h ρ w) (st : Step h ρ w h' ρ' w') : Bd F B w' :=
  ⟨fun x e => Nat.le_trans (b.le x e) st.upd.size, fun l hl => by
    obtain ⟨r, hr⟩ := b.rd l hl
    refine ⟨r, (st.upd.block l (Array.getElem?_eq_some_iff.1 hr).1 ?_).trans hr⟩
    rintro ⟨k, o, p, h1, h2, h3⟩
    obtain ⟨_, _, c, t, z, h4⟩ := H.cel k o p l h1 h2 h3
    rw [hr] at h4; cases h4; cases t⟩
theorem Bd.wide {B : Nat} {w : World} (h : B ≤ w.heap.size) : Bd Fence.wide (some B) w := ⟨fun b e => by cases e; exact h, fun l hl => by cases hl⟩
theorem Bd.none {w : World} : Bd Fence.wide none w := ⟨fun b e => (by cases e), fun l hl => by cases hl⟩
/-- The marks; or that there are none. -/
def MarksO : Option Nat → List Deferred → World → Prop
  | none, ds, _ => ds = []
  | some B, ds, w => Marks B ds w
/-- What is kept, from a start on, by every step (at functions: where they began; at iterators: what they have yielded). -/
structure Yard (P : Program) (Γ : Glo) (L : Nat) where
  I : (Nat → Prop) → DH → List Place → World → Prop
  st : ∀ {N : Nat → Prop} {h : DH} {ρ : List Place} {w : World} {h' : DH} {ρ' : List Place} {w' : World}, I N h ρ w → HRel P Γ N h ρ w → HRel P Γ N h' ρ' w' → Step h ρ w h' ρ' w' → Kept L ρ ρ' → I N h' ρ' w'
def startY (P : Program) (Γ : Glo) (L : Nat) (N0 : Nat → Prop) (h0 : DH) (ρ0 : List Place) (w0 : World) : Yard P Γ L where
  I := fun N h ρ w => N = N0 ∧ Step h0 ρ0 w0 h ρ w ∧ Kept L ρ0 ρ
  st := fun ⟨e, s, k⟩ _ _ st k' => ⟨e, s.trans st, k.trans k'⟩
abbrev QY (P : Program) (Γ : Glo) (L : Nat) := Exit → St → Yard P Γ L → Prop
/-- What a walk may end in. -/
def QE {P : Program} {Γ : Glo} {L : Nat} (Q : QY P Γ L) : Exit → St → Yard P Γ L → Prop
  | .panic _, _, _ => False
  | .outgrown, _, _ => False
  | e, S, Y => Q e S Y
/-- The state S is carried into one that Q lets. -/
def Tr (P : Program) (Γ : Glo) (F : Fence) (B : Option Nat) (L : Nat) (Y : Yard P Γ L) (c : Code) (S : St) (Q : QY P Γ L) : Prop :=
  ∀ N ρ a w, Rel P Γ N S ρ a w → Y.I N S.h ρ w → MarksO B a.defers w → Bd F B w →
    c.wpIn F 0 P (fun e a' w' => ∃ S' ρ' N' Y', QE Q e S' Y' ∧ Rel P Γ N' S' ρ' a' w' ∧ Y'.I N' S'.h ρ' w' ∧ MarksO B a'.defers w' ∧ Bd F B w') a w

/-- A state says no more than another. -/
def SLe (L : Nat) (S S' : St) : Prop := ∀ P Γ N ρ a w, Rel P Γ N S ρ a w → ∃ ρ', Rel P Γ N S' ρ' a w ∧ Step S.h ρ w S'.h ρ' w ∧ Kept L ρ ρ'
theorem SLe.refl (L : Nat) (S : St) : SLe L S S := fun _ _ _ ρ _ _ R => ⟨ρ, R, Step.refl _ _ _, Kept.refl _ _⟩
theorem SLe.trans {L : Nat} {A B C : St} (h : SLe L A B) (k : SLe L B C) : SLe L A C := fun P Γ N ρ a w R => by
  obtain ⟨ρ1, R1, s1, k1⟩ := h P Γ N ρ a w R
  obtain ⟨ρ2, R2, s2, k2⟩ := k P Γ N ρ1 a w R1
  exact ⟨ρ2, R2, s1.trans s2, k1.trans k2⟩

section
variable {P : Program} {Γ : Glo} {N : Nat → Prop} {S : St} {F : Fence} {B : Option Nat} {L : Nat} {Y : Yard P Γ L} {Q Q' : QY P Γ L}

theorem QE.mono (h : ∀ e S Y, Q e S Y → Q' e S Y) {e : Exit} {S : St} (hq : QE Q e S Y) : QE Q' e S Y := by
  cases e <;> first | exact hq | exact h _ _ _ hq
theorem Tr.mono {c : Code} (h : Tr P Γ F B L Y c S Q) (hq : ∀ e S Y, Q e S Y → Q' e S Y) : Tr P Γ F B L Y c S Q' := fun N ρ a w R y m b =>
  wpIn_mono (h N ρ a w R y m b) fun _ _ _ ⟨S', ρ', N', Y', h1, h2⟩ => ⟨S', ρ', N', Y', h1.mono hq, h2⟩
theorem Tr.weaken {c : Code} {S' : St} (hS : SLe L S S') (h : Tr P Γ F B L Y c S' Q) : Tr P Γ F B L Y c S Q := fun N ρ a w R y m b => by
  obtain ⟨ρ1, R1, s1, k1⟩ := hS P Γ N ρ a w R
  exact h N ρ1 a w R1 (Y.st y R.hr R1.hr s1 k1) m b

theorem marks_step {ρ ρ' : List Place} {h' : DH} {ds : List Deferred} {w w' : World} (H : HRel P Γ N S.h ρ w) (st : Step S.h ρ w h' ρ' w') (m : MarksO B ds w) : MarksO B ds w' := by
  cases B with
  | none => exact m
  | some B =>
  refine Marks.upd st.upd m fun k _ hk e => ?_
  obtain ⟨i, o, p, h1, h2, h3⟩ := hk
  obtain ⟨_, _, c, t, z, h4⟩ := H.cel i o p k h1 h2 h3
  rw [h4] at e; cases e; cases t

theorem Tr.skip (h : Q .normal S Y) : Tr P Γ F B L Y .skip S Q := fun N ρ _ _ R y m b => wpIn_skip ⟨S, ρ, N, Y, h, R, y, m, b⟩
theorem Tr.ret (h : Q .ret S Y) : Tr P Γ F B L Y .ret S Q := fun N ρ _ _ R y m b => wpIn_ret ⟨S, ρ, N, Y, h, R, y, m, b⟩
theorem Tr.exit {id : Nat} (h : Q (.exit id) S Y) : Tr P Γ F B L Y (.exit id) S Q := fun N ρ _ _ R y m b => wpIn_exit ⟨S, ρ, N, Y, h, R, y, m, b⟩
/-- What follows. -/
def thenQ (K : St → Yard P Γ L → Prop) (Q : QY P Γ L) : QY P Γ L
  | .normal, S, Y => K S Y
  | e, S, Y => Q e S Y
theorem Tr.seq {x y : Code} (h : Tr P Γ F B L Y x S (thenQ (fun S' Y' => Tr P Γ F B L Y' y S' Q) Q)) : Tr P Γ F B L Y (.seq x y) S Q := fun N ρ a w R y m b => by
  refine wpIn_seq (wpIn_mono (h N ρ a w R y m b) ?_)
  rintro e a' w' ⟨S', ρ', N', Y', h1, h2, h3, h4, h5⟩
  cases e with
  | normal => exact h1 N' ρ' a' w' h2 h3 h4 h5
  | ret => exact ⟨S', ρ', N', Y', h1, h2, h3, h4, h5⟩
  | exit id => exact ⟨S', ρ', N', Y', h1, h2, h3, h4, h5⟩
  | goto t => exact ⟨S', ρ', N', Y', h1, h2, h3, h4, h5⟩
  | panic c => exact h1.elim
  | outgrown => exact h1.elim
theorem Tr.cond {c : Operand} {x y : Code} {b : Bool} (hc : opd S.fr c = .bool b) (h1 : b = true → Tr P Γ F B L Y x S Q) (h2 : b = false → Tr P Γ F B L Y y S Q) : Tr P Γ F B L Y (.cond c x y) S Q := fun N ρ a w R y m bb => by
  have hr := opd_rep R c
  rw [hc] at hr
  refine wpIn_cond (t := b) hr ?_
  cases b
  · exact h2 rfl N ρ a w R y m bb
  · exact h1 rfl N ρ a w R y m bb
theorem wpIn_scope {F : Fence} {n : Nat} {P : Program} {Q : Exit → Act → World → Prop} {a : Act} {w : World} {c : Code} (h : c.wpIn F n P (Exit.noGoto Q) a w) : (Code.scope c).wpIn F n P Q a w := by
  intro b k cs hro hb hr
  have h0 : (lone (b.atR a (.code (.scope c) :: k)) cs w).fenced P F := fenced_calm hb hr rfl
  have s0 : step P (lone (b.atR a (.code (.scope c) :: k)) cs w) = .next (lone (b.atR a (.code c :: .inScope c :: k)) cs w) := step_lone_go (by simp [stepG, stepG.exec, Frame.atR])
  obtain ⟨e, a₁, w₁, hq, harr⟩ := h b (.inScope c :: k) cs hro hb hr
  have s1 : step P (lone (b.atR a₁ (.inScope c :: k)) cs w₁) = .next (lone (b.atR a₁ k) cs w₁) := step_lone_go (by simp [stepG, stepG.exec, Frame.atR])
  cases e with
  | normal => exact ⟨.normal, a₁, w₁, hq, .head h0 s0 (StepsIn.trans harr (.one (fenced_calm hb hr rfl) s1))⟩
  | exit id => exact ⟨.exit id, a₁, w₁, hq, fun k' hk => .head h0 s0 (harr.1 k' hk), fun hr' hk => let ⟨k₁, h1, h2⟩ := harr.2 hr' hk; ⟨k₁, h1, .head h0 s0 h2⟩⟩
  | goto l => exact hq.elim
  | ret => exact ⟨_, a₁, w₁, hq, .of_steps (.one h0 s0) harr⟩
  | panic ch => exact ⟨_, a₁, w₁, hq, .of_steps (.one h0 s0) harr⟩
  | outgrown => exact ⟨_, a₁, w₁, hq, .of_steps (.one h0 s0) harr⟩
/-- Within a scope: no goto. -/
def noGo (Q : QY P Γ L) : QY P Γ L
  | .goto _, _, _ => False
  | e, S, Y => Q e S Y
theorem Tr.scope {c : Code} (h : Tr P Γ F B L Y c S (noGo Q)) : Tr P Γ F B L Y (.scope c) S Q := fun N ρ a w R y m b => by
  refine wpIn_scope (wpIn_mono (h N ρ a w R y m b) ?_)
  rintro e a' w' ⟨S', ρ', N', Y', h1, h2⟩
  cases e with
  | goto l => exact h1.elim
  | _ => exact ⟨S', ρ', N', Y', h1, h2⟩
theorem Tr.label {l : Nat} (h : Q .normal S Y) : Tr P Γ F B L Y (.label l) S Q := fun N ρ a w R y m b => wpIn_label ⟨S, ρ, N, Y, h, R, y, m, b⟩
/-- Out of a block. -/
def blockQ (id : Nat) (Q : QY P Γ L) : QY P Γ L
  | .exit i, S, Y => if i = id then Q .normal S Y else Q (.exit i) S Y
  | e, S, Y => Q e S Y
theorem Tr.block {id : Nat} {c : Code} (h : Tr P Γ F B L Y c S (blockQ id Q)) : Tr P Γ F B L Y (.block id c) S Q := fun N ρ a w R y m b => by
  refine wpIn_block (wpIn_mono (h N ρ a w R y m b) ?_)
  rintro e a' w' ⟨S', ρ', N', Y', h1, h2⟩
  cases e with
  | exit i =>
    show if i = id then _ else _
    by_cases e : i = id
    · rw [if_pos e]
      have h1 : (if i = id then Q .normal S' Y' else Q (.exit i) S' Y') := h1
      rw [if_pos e] at h1
      exact ⟨S', ρ', N', Y', h1, h2⟩
    · rw [if_neg e]
      have h1 : (if i = id then Q .normal S' Y' else Q (.exit i) S' Y') := h1
      rw [if_neg e] at h1
      exact ⟨S', ρ', N', Y', h1, h2⟩
  | normal => exact ⟨S', ρ', N', Y', h1, h2⟩
  | ret => exact ⟨S', ρ', N', Y', h1, h2⟩
  | goto t => exact ⟨S', ρ', N', Y', h1, h2⟩
  | panic c => exact h1.elim
  | outgrown => exact h1.elim
/-- A loop: an invariant, with a number that sinks. -/
theorem Tr.loop {c : Code} (I : Nat → St → Yard P Γ L → Prop) (n : Nat) (h0 : I n S Y) (h : ∀ n S Y, I n S Y → Tr P Γ F B L Y c S (thenQ (fun S' Y' => ∃ n', n' < n ∧ I n' S' Y') Q)) : Tr P Γ F B L Y (.loop c) S Q := fun N ρ a w R y m b => by
  refine wpIn_loop_ghost (fun k a' w' => ∃ S' ρ' N' Y', I k S' Y' ∧ Rel P Γ N' S' ρ' a' w' ∧ Y'.I N' S'.h ρ' w' ∧ MarksO B a'.defers w' ∧ Bd F B w') n ⟨S, ρ, N, Y, h0, R, y, m, b⟩ ?_
  rintro k a' w' ⟨S', ρ', N', Y', h1, h2, h3, h4, h5⟩
  refine wpIn_mono (h k S' Y' h1 N' ρ' a' w' h2 h3 h4 h5) ?_
  rintro e a2 w2 ⟨S2, ρ2, N2, Y2, g1, g2, g3, g4, g5⟩
  cases e with
  | normal =>
    obtain ⟨n', hlt, hI⟩ := g1
    exact ⟨n', hlt, S2, ρ2, N2, Y2, hI, g2, g3, g4, g5⟩
  | ret => exact ⟨S2, ρ2, N2, Y2, g1, g2, g3, g4, g5⟩
  | exit id => exact ⟨S2, ρ2, N2, Y2, g1, g2, g3, g4, g5⟩
  | goto t => exact ⟨S2, ρ2, N2, Y2, g1, g2, g3, g4, g5⟩
  | panic c => exact g1.elim
  | outgrown => exact g1.elim
theorem Rel.ext {ρ : List Place} {a : Act} {w w' : World} (R : Rel P Γ N S ρ a w) (hE : Ext w w') : Rel P Γ N S ρ a w' := ⟨R.hr.ext hE, R.fr.out (Outl.ext ρ hE)⟩
/-- Behind a step. -/
theorem Tr.done {S' : St} {e : Exit} {ρ ρ' : List Place} {a a' : Act} {w w' : World} (R : Rel P Γ N S ρ a w) (y : Y.I N S.h ρ w) (m : MarksO B a.defers w) (b : Bd F B w) (hk : QE Q e S' Y) (R' : Rel P Γ N S' ρ' a' w') (st : Step S.h ρ w S'.h ρ' w') (hkp : Kept L ρ ρ') (hdf : a'.defers = a.defers) :
    ∃ S' ρ' N' Y', QE Q e S' Y' ∧ Rel P Γ N' S' ρ' a' w' ∧ Y'.I N' S'.h ρ' w' ∧ MarksO B a'.defers w' ∧ Bd F B w' :=
  ⟨S', ρ', N, Y, hk, R', Y.st y R.hr R'.hr st hkp, by rw [hdf]; exact marks_step R.hr st m, b.step R.hr st⟩

/-- Slots may be forgotten, or read otherwise. -/
theorem SLe.fr {fr fr' : List DV} {h : DH} (hl : fr'.length = fr.length) (hd : ∀ i, i < fr.length → DLe (fr.getD i .any) (fr'.getD i .any)) : SLe L ⟨fr, h⟩ ⟨fr', h⟩ := fun P Γ N ρ a w R =>
  ⟨ρ, ⟨R.hr, ⟨by rw [hl]; exact R.fr.1, fun i hi => hd i (by rw [← hl]; exact hi) _ _ _ _ (R.fr.2 i (by rw [← hl]; exact hi))⟩⟩, Step.refl _ _ _, Kept.refl _ _⟩
theorem DLe.refl (d : DV) : DLe d d := fun _ _ _ _ h => h
theorem DLe.any (d : DV) : DLe d .any := fun _ _ _ _ _ => trivial
theorem DLe.int {k : IntKind} {a b : Int} (h : a = b) : DLe (.int k a) (.int k b) := by rw [h]; exact DLe.refl _
theorem DLe.bool {a b : Bool} (h : a = b) : DLe (.bool a) (.bool b) := by rw [h]; exact DLe.refl _
theorem DLe.ints_nil : DLe .nils (.ints []) := fun M w ρ v h => ⟨none, 0, h, Nat.le_refl _, Nat.zero_le _, fun j hj => absurd hj (Nat.not_lt_zero j)⟩
theorem DLe.bools_nil : DLe .nils (.bools []) := fun M w ρ v h => ⟨none, 0, h, Nat.le_refl _, Nat.zero_le _, fun j hj => absurd hj (Nat.not_lt_zero j)⟩
theorem DLe.sl_nil (m : Nat) (f : Nat → Nat → DV) : DLe .nils (.sl m 0 f) := fun M w ρ v h => ⟨none, 0, h, Nat.le_refl _, Nat.zero_le _, fun i j hi => absurd hi (Nat.not_lt_zero i)⟩
def forget (live : List Nat) (fr : List DV) : List DV := (fr.zipIdx).map fun x => if live.contains x.2 then x.1 else .any
theorem forget_length (live : List Nat) (fr : List DV) : (forget live fr).length = fr.length := by simp [forget]
theorem forget_get (live : List Nat) (fr : List DV) {i : Nat} (hi : i < fr.length) : (forget live fr).getD i .any = if live.contains i then fr.getD i .any else .any := by
  simp [forget, hi]
theorem SLe.forget (live : List Nat) (fr : List DV) (h : DH) : SLe L ⟨fr, h⟩ ⟨forget live fr, h⟩ := SLe.fr (forget_length _ _) fun i hi => by
  rw [forget_get live fr hi]
  split
  · exact DLe.refl _
  · exact DLe.any _

/-- Objects under new numbers; those that are not listed go out of sight. -/
def renK : List Nat → Nat → Option Nat
  | [], _ => none
  | x :: σ, k => if x = k then some 0 else (renK σ k).map (· + 1)
def ren (σ : List Nat) : DV → DV
  | .ref k j => match renK σ k with
    | some k' => .ref k' j
    | none => .any
  | .mse k m off n => match renK σ k with
    | some k' => .mse k' m off n
    | none => .any
  | .mri k i => match renK σ k with
    | some k' => .mri k' i
    | none => .any
  | .msl k m off n => match renK σ k with
    | some k' => .msl k' m off n
    | none => .any
  | .mp k m i j => match renK σ k with
    | some k' => .mp k' m i j
    | none => .any
  | .it k => match renK σ k with
    | some k' => .it k'
    | none => .any
  | .agg m f => .agg m fun j => ((List.range m).map fun i => ren σ (f i)).getD j .any
  | .tup m f => .tup m fun j => ((List.range m).map fun i => ren σ (f i)).getD j .any
  | .fn g m c => .fn g m fun j => ((List.range m).map fun i => ren σ (c i)).getD j .any
  | d => d
def renO (σ : List Nat) : Option DO → Option DO
  | some (.cells l) => some (.cells (l.map (ren σ)))
  | o => o
def compactX (σ : List Nat) (S : St) : St := ⟨S.fr.map (ren σ), σ.map fun k => renO σ (S.h.getD k none)⟩

theorem renK_spec : ∀ {σ : List Nat} {k k' : Nat}, renK σ k = some k' → σ[k']? = some k
  | [], _, _, h => by cases h
  | x :: σ, k, k', h => by
    unfold renK at h
    split at h
    · rename_i e; cases h; subst e; rfl
    · cases hr : renK σ k with
      | none => rw [hr] at h; cases h
      | some i =>
        rw [hr] at h
        have e : k' = i + 1 := (Option.some.inj h).symm
        subst e
        have := renK_spec hr
        simpa using this
theorem range_getD {f : Nat → DV} {m j : Nat} (hj : j < m) : ((List.range m).map f).getD j .any = f j := by simp [hj]
theorem range_rep {M : Nat → Prop} {w : World} {ρ : List Place} {f : Nat → DV} {m j : Nat} {u : Value} (hj : j < m) (h : RepV M w (f j) ρ u) : RepV M w (((List.range m).map f).getD j .any) ρ u := by rw [range_getD hj]; exact h
theorem ren_rep {M M' : Nat → Prop} {w : World} {σ : List Nat} {ρ ρ' : List Place} (hM : ∀ b, M' b → M b) (hρ : ∀ (k k' : Nat) (p : Place), σ[k']? = some k → ρ[k]? = some p → ρ'[k']? = some p) : ∀ (d : DV) {v : Value}, RepV M w d ρ v → RepV M' w (ren σ d) ρ' v := by
  have low : ∀ (d : DV) {v : Value}, RepV M w d [] v → RepV M' w d [] v := fun d v h => h.out d ⟨fun _ _ _ _ => rfl, fun b hb => .inl (hM b hb), fun k p hk => by simp at hk⟩
  intro d
  induction d with
  | any => intro v _; trivial
  | nils => intro v h; exact h
  | int k n => intro v h; exact h
  | bool b => intro v h; exact h
  | str s => intro v h; exact h
  | ints l => intro v h; exact low (.ints l) h
  | bools l => intro v h; exact low (.bools l) h
  | sl m n f _ => intro v h; exact low (.sl m n f) h
  | fp m f _ => intro v h; exact low (.fp m f) h
  | agg m f ih =>
    rintro v ⟨cs, e, hs, h⟩
    exact ⟨cs, e, hs, fun j hj => let ⟨u, h1, h2⟩ := h j hj; ⟨u, h1, range_rep hj (ih j h2)⟩⟩
  | tup m f ih =>
    rintro v ⟨cs, e, hs, h⟩
    exact ⟨cs, e, hs, fun j hj => let ⟨u, h1, h2⟩ := h j hj; ⟨u, h1, range_rep hj (ih j h2)⟩⟩
  | fn g m c ih =>
    rintro v ⟨cs, e, hs, h⟩
    exact ⟨cs, e, hs, fun j hj => let ⟨u, h1, h2⟩ := h j hj; ⟨u, h1, range_rep hj (ih j h2)⟩⟩
  | ref k j =>
    rintro v ⟨p, hp, e⟩
    simp only [ren]
    cases hk : renK σ k with
    | none => trivial
    | some k' => exact ⟨p, hρ k k' p (renK_spec hk) hp, e⟩
  | msl k m off n =>
    rintro v ⟨p, cap, hp, r⟩
    simp only [ren]
    cases hk : renK σ k with
    | none => trivial
    | some k' => exact ⟨p, cap, hρ k k' p (renK_spec hk) hp, r⟩
  | mp k m i j =>
    rintro v ⟨p, hp, e⟩
    simp only [ren]
    cases hk : renK σ k with
    | none => trivial
    | some k' => exact ⟨p, hρ k k' p (renK_spec hk) hp, e⟩
  | yl l => intro v h; exact h
  | cst u => intro v h; exact h
  | mse k m off n =>
    rintro v ⟨p, a, cap, hp, r⟩
    simp only [ren]
    cases hk : renK σ k with
    | none => trivial
    | some k' => exact ⟨p, a, cap, hρ k k' p (renK_spec hk) hp, r⟩
  | mri k i =>
    rintro v ⟨p, vs, hp, r⟩
    simp only [ren]
    cases hk : renK σ k with
    | none => trivial
    | some k' => exact ⟨p, vs, hρ k k' p (renK_spec hk) hp, r⟩
  | it k =>
    rintro v ⟨p, hp, e⟩
    simp only [ren]
    cases hk : renK σ k with
    | none => trivial
    | some k' => exact ⟨p, hρ k k' p (renK_spec hk) hp, e⟩

def noPlace : Place := ⟨0, 0, 0, undef, fun _ => False⟩
theorem SLe.compact (σ : List Nat) (S : St) (h1 : σ.Nodup) (h2 : ∀ k ∈ σ, k < S.h.length) (h3 : ∀ k, k < L → σ[k]? = some k) : SLe L S (compactX σ S) := fun P Γ N ρ a w R => by
  obtain ⟨ρ', hρ'⟩ : ∃ ρ', ρ' = σ.map fun k => ρ.getD k noPlace := ⟨_, rfl⟩
  have get : ∀ {k' : Nat} {p : Place}, ρ'[k']? = some p → ∃ k, σ[k']? = some k ∧ ρ[k]? = some p := fun {k' p} h => by
    rw [hρ', List.getElem?_map] at h
    cases hk : σ[k']? with
    | none => rw [hk] at h; cases h
    | some k =>
      rw [hk] at h
      have hlt : k < ρ.length := by rw [R.hr.len]; exact h2 k (List.mem_of_getElem? hk)
      refine ⟨k, rfl, ?_⟩
      simp [hlt] at h
      simp [hlt, h]
  have put : ∀ (k k' : Nat) (p : Place), σ[k']? = some k → ρ[k]? = some p → ρ'[k']? = some p := fun k k' p hk hp => by
    rw [hρ', List.getElem?_map, hk]
    simp [List.getD_eq_getElem?_getD, hp]
  have hget : ∀ {k' : Nat} {o' : DO}, (compactX σ S).h[k']? = some (some o') → ∃ k o, σ[k']? = some k ∧ S.h[k]? = some (some o) ∧ renO σ (some o) = some o' := fun {k' o'} h => by
    show ∃ k o, _
    have h : (σ.map fun k => renO σ (S.h.getD k none))[k']? = some (some o') := h
    rw [List.getElem?_map] at h
    cases hk : σ[k']? with
    | none => rw [hk] at h; cases h
    | some k =>
      rw [hk] at h
      have hlt : k < S.h.length := h2 k (List.mem_of_getElem? hk)
      have h : renO σ (S.h.getD k none) = some o' := Option.some.inj h
      have e : S.h.getD k none = S.h[k] := by simp [hlt]
      rw [e] at h
      cases ho : S.h[k] with
      | none => rw [ho] at h; cases h
      | some o => rw [ho] at h; exact ⟨k, o, rfl, by simp [hlt, ho], h⟩
  have hM : ∀ b, MO (compactX σ S).h ρ' b → MO S.h ρ b := by
    rintro b ⟨k', o', p, g1, g2, g3⟩
    obtain ⟨k, o, e1, e2, _⟩ := hget g1
    obtain ⟨k2, e3, e4⟩ := get g2
    have : k2 = k := Option.some.inj (e3.symm.trans e1)
    subst this
    exact ⟨k2, o, p, e2, e4, g3⟩
  have hMS : ∀ b, MS N (compactX σ S).h ρ' b → MS N S.h ρ b := fun b hb => hb.imp id (hM b)
  have O : Outl (MS N S.h ρ) w [] (MS N (compactX σ S).h ρ') w [] := ⟨fun _ _ _ _ => rfl, fun b hb => .inl (hMS b hb), fun k p hk => by simp at hk⟩
  have low : ∀ (d : DV) {v : Value}, RepV (MS N S.h ρ) w d ρ v → RepV (MS N (compactX σ S).h ρ') w (ren σ d) ρ' v := fun d v h => ren_rep hMS put d h
  refine ⟨ρ', ⟨⟨by simp [hρ', compactX], fun k' o' hk' => ?_, fun k' o' p b g1 g2 g3 => ?_, fun i i' o1 o2 p1 p2 b hne g1 g2 g3 g4 g5 g6 => ?_, R.hr.nlt, R.hr.gi⟩, ⟨by simp [compactX, R.fr.1], fun i hi => ?_⟩⟩, ⟨Upd.refl _ w, fun b hb => .inl (hM b hb)⟩, fun k p hk hp => put k k p (h3 k hk) hp⟩
  · obtain ⟨k, o, e1, e2, e3⟩ := hget hk'
    obtain ⟨p, hp, hr⟩ := R.hr.obj k o e2
    refine ⟨p, put k k' p e1 hp, ?_⟩
    cases o with
    | cells l =>
      cases e3
      show RowAt w p (l.map (ren σ)).length _
      rw [List.length_map]
      refine RowAt.out hr rfl fun j u hj hu => ?_
      have : (l.map (ren σ)).getD j .any = ren σ (l.getD j .any) := by simp [hj]
      rw [this]; exact low _ hu
    | ints l => cases e3; exact RowAt.out hr rfl fun j u _ hu => hu
    | bools l => cases e3; exact RowAt.out hr rfl fun j u _ hu => hu
    | arr m n f => cases e3; exact RowAt.out hr rfl fun j u _ hu => RepV.out _ O hu
    | iter encs =>
      cases e3
      obtain ⟨gf, lb, Rd, q1, q2, q3, q4⟩ := hr
      exact ⟨gf, lb, Rd, q1, q2, fun b hb => ⟨fun hm => (q3 b hb).1 (hMS b hm), (q3 b hb).2⟩, q4⟩
    | mo x => cases e3; exact hr
  · obtain ⟨k, o, e1, e2, _⟩ := hget g1
    obtain ⟨k2, e3, e4⟩ := get g2
    have : k2 = k := Option.some.inj (e3.symm.trans e1)
    subst this
    exact R.hr.cel k2 o p b e2 e4 g3
  · obtain ⟨k, o, e1, e2, _⟩ := hget g1
    obtain ⟨k2, o2, e3, e4, _⟩ := hget g2
    obtain ⟨k3, e5, e6⟩ := get g3
    obtain ⟨k4, e7, e8⟩ := get g4
    have : k3 = k := Option.some.inj (e5.symm.trans e1)
    subst this
    have : k4 = k2 := Option.some.inj (e7.symm.trans e3)
    subst this
    refine R.hr.dis k3 k4 o o2 p1 p2 b (fun e => hne ?_) e2 e4 e6 e8 g5 g6
    subst e
    exact (List.getElem?_inj (List.getElem?_eq_some_iff.1 e5).1 h1).1 (e5.trans e7.symm)
  · have hi' : i < S.fr.length := by simpa [compactX] using hi
    have : (compactX σ S).fr.getD i .any = ren σ (S.fr.getD i .any) := by simp [compactX, hi']
    rw [this]; exact low _ (R.fr.2 i hi')

/-- A row that is written no more becomes a list. -/
theorem SLe.freezeInts {S : St} {k : Nat} {l : List Int} (hk : S.h[k]? = some (some (.ints l))) (slots : List Nat) (hs : ∀ i ∈ slots, S.fr.getD i .any = .msl k 1 0 l.length) : SLe L S ⟨slots.foldl (fun fr i => fr.set i (.ints l)) S.fr, S.h.set k none⟩ := fun P Γ N ρ a w R => by
  obtain ⟨p, hp, hr⟩ := R.hr.obj k _ hk
  have hfoot : p.foot = fun b => b = p.blk := hr.1
  have hN : ¬ MS N (S.h.set k none) ρ p.blk := by
    rintro (hn | ⟨i, o, p', g1, g2, g3⟩)
    · exact (R.hr.cel k _ p p.blk hk hp (by rw [hfoot])).2.1 hn
    · exact R.hr.dis i k o _ p' p p.blk (get_kill g1).1 (get_kill g1).2 hk g2 hp g3 (by rw [hfoot])
  have R1 : Rel P Γ N ⟨S.fr, S.h.set k none⟩ ρ a w := ⟨R.hr.kill k, R.fr.out (Outl.kill k)⟩
  have hrep : ∀ i ∈ slots, RepV (MS N (S.h.set k none) ρ) w (.ints l) ρ (a.tmps.getD i undef) := fun i hi => by
    have h := R.fr.at i
    rw [hs i hi] at h
    obtain ⟨p', cap, hp', e, g1, g2, _⟩ := h
    have ep : p' = p := Option.some.inj (hp'.symm.trans hp)
    subst ep
    refine ⟨_, cap, e, g1, g2, fun j hj => ⟨p'.blk, p'.off, by simp, hN, ?_⟩⟩
    obtain ⟨u, e1, e2⟩ := RowAt.cell hr hj
    rw [e1, e2]
  refine ⟨ρ, ?_, Step.kill k, Kept.refl _ _⟩
  have go : ∀ (sl : List Nat) (fr : List DV), (∀ i ∈ sl, RepV (MS N (S.h.set k none) ρ) w (.ints l) ρ (a.tmps.getD i undef)) → Rel P Γ N ⟨fr, S.h.set k none⟩ ρ a w → Rel P Γ N ⟨sl.foldl (fun fr i => fr.set i (.ints l)) fr, S.h.set k none⟩ ρ a w := by
    intro sl
    induction sl with
    | nil => intro fr _ h; exact h
    | cons i sl ih =>
      intro fr hh h
      refine ih _ (fun i hi => hh i (by simp [hi])) ⟨h.hr, by simp [h.fr.1], fun j hj => ?_⟩
      have hj' : j < fr.length := by simpa using hj
      by_cases e : i = j
      · subst e
        have : (fr.set i (.ints l)).getD i .any = .ints l := by simp [hj']
        rw [this]; exact hh i (by simp)
      · have : (fr.set i (.ints l)).getD j .any = fr.getD j .any := by simp only [List.getD_eq_getElem?_getD, List.getElem?_set, if_neg e]
        rw [this]; exact h.fr.2 j hj'
  exact go slots S.fr hrep R1

end
end Go.Proofs.YtekkngkphejfcaaDoor
