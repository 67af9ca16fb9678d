/- Literals of structs, parts of values, cuts of slices: pure operations on the plainer view. -/
import Derived.Test.YtekkngkphejfcaaDoorDapp
namespace Go.Proofs.YtekkngkphejfcaaDoor
open Go.RowKit

/-- As the model fills a value's cells, on the view. -/
def fillD (place : Nat → Option (Nat × Nat)) (cells : List DV) : List (Nat × DV) → Option (List DV)
  | [] => some cells
  | (i, d) :: rest => match place i with
    | none => none
    | some (off, size) => match dcells d with
      | none => none
      | some l => if l.length = size ∧ off + l.length ≤ cells.length then fillD place (splice cells off l) rest else none
def placesB (P : Program) (t : TypeId) : Option (Value × (Nat → Option (Nat × Nat))) := match P.info? t with
  | some it => match P.underlying t with
    | some (.array _ e) => match it.zero with
      | some z => match P.info? e with
        | some ie => some (z, fun i => some (i * ie.size, ie.size))
        | none => none
      | none => none
    | some (.struct fields) => match it.zero with
      | some z => match fields.toList.mapM (fun f => (P.info? f.type).map fun i => (f.offset, i.size)) with
        | some places => some (z, fun i => places.toArray[i]?)
        | none => none
      | none => none
    | _ => none
  | none => none
def litD (P : Program) (S : St) (t : TypeId) (parts : List (Nat × Operand)) : Option (DV × Prop) := match placesB P t with
  | some (z, place) => match fillD place (z.cells.toList.map ofV) (parts.map fun x => (x.1, opd S.fr x.2)) with
    | some l => some (.agg l.length (fun j => l.getD j .any), True)
    | none => none
  | none => none
def partD (P : Program) (t : TypeId) (m : Nat) (f : Nat → DV) (off size : Nat) : Option DV :=
  if off + size ≤ m then (if oneB P t then (if size = 1 then some (f off) else none) else if aggB P t size then some (.agg size (tab size fun j => f (off + j))) else none) else none
def ixD (P : Program) (t : TypeId) (x : DV) (n : Int) : Option (DV × Prop) := match x with
  | .agg m f => match P.underlying t with
    | some (.array len e) => match P.info? e with
      | some i => if oneB P e && i.size == 1 && len == m then some (f n.toNat, 0 ≤ n ∧ n < len) else none
      | none => none
    | _ => none
  | _ => none
def fldD (P : Program) (t : TypeId) (x : DV) (fi : Nat) : Option (DV × Prop) := match x with
  | .agg m f => match P.underlying t with
    | some (.struct fs) => match fs[fi]? with
      | some fd => match P.info? fd.type with
        | some i => match partD P fd.type m f fd.offset i.size with
          | some d => some (d, True)
          | none => none
        | none => none
      | none => none
    | _ => none
  | _ => none
def cutD (P : Program) (t : TypeId) (x : DV) (lo hi : Option Int) : Option (DV × Prop) := match P.underlying t with
  | some (.slice e) => match P.info? e with
    | some i => match x with
      | .ints l => if i.size = 1 then some (.ints ((l.take (hi.getD l.length).toNat).drop (lo.getD 0).toNat), 0 ≤ lo.getD 0 ∧ lo.getD 0 ≤ hi.getD l.length ∧ hi.getD l.length ≤ l.length) else none
      | .bools l => if i.size = 1 then some (.bools ((l.take (hi.getD l.length).toNat).drop (lo.getD 0).toNat), 0 ≤ lo.getD 0 ∧ lo.getD 0 ≤ hi.getD l.length ∧ hi.getD l.length ≤ l.length) else none
      | .sl m n f => if i.size = m then some (.sl m ((hi.getD n).toNat - (lo.getD 0).toNat) (fun i j => f ((lo.getD 0).toNat + i) j), 0 ≤ lo.getD 0 ∧ lo.getD 0 ≤ hi.getD n ∧ hi.getD n ≤ n) else none
      | .msl k m off n => if i.size = m then some (.mse k m (off + (lo.getD 0).toNat) ((hi.getD n).toNat - (lo.getD 0).toNat), 0 ≤ lo.getD 0 ∧ lo.getD 0 ≤ hi.getD n ∧ hi.getD n ≤ n) else none
      | _ => none
    | none => none
  | _ => none
def intO (S : St) : Option Operand → Option (Option Int)
  | none => some none
  | some x => match opd S.fr x with
    | .int _ n => some (some n)
    | _ => none

/-- Arrays of integers compared. -/
def eqAll (f g : Nat → DV) : List Nat → Bool
  | [] => true
  | i :: is => (intD (f i) == intD (g i)) && eqAll f g is
def eqaB (P : Program) (t : TypeId) (f g : Nat → DV) (m m' : Nat) : Option (List Nat) := match P.underlying t with
  | some (.array n e) => match P.info? e with
    | some i => match P.underlying e with
      | some (.int _) => if i.size == 1 && oneB P e && P.eqGuardType P.depth t == false && n == m && n == m' && (List.range n).all (fun i => isI (f i) && isI (g i)) then some (List.range n) else none
      | _ => none
    | none => none
  | _ => none
def eqaD (P : Program) (op : BinOp) (t : TypeId) (x y : DV) : Option (DV × Prop) := match op, x, y with
  | .eql, .agg m f, .agg m' g => match eqaB P t f g m m' with
    | some is => some (.bool (eqAll f g is), True)
    | none => none
  | .neq, .agg m f, .agg m' g => match eqaB P t f g m m' with
    | some is => some (.bool (!(eqAll f g is)), True)
    | none => none
  | _, _, _ => none
/-- All that only reads and reckons. -/
def pops (P : Program) (S : St) : Op → Option (DV × Prop)
  | .build t parts => litD P S t parts.toList
  | .index t x i => match opd S.fr i with
    | .int _ n => ixD P t (opd S.fr x) n
    | _ => none
  | .field t x f => fldD P t (opd S.fr x) f
  | .slice t x lo hi none => match intO S lo with
    | some l => match intO S hi with
      | some h => cutD P t (opd S.fr x) l h
      | none => none
    | none => none
  | .binOp op t x y t' => match eqaD P op t (opd S.fr x) (opd S.fr y) with
    | some r => some r
    | none => pop P S (.binOp op t x y t')
  | op => pop P S op

section
variable {P : Program} {Γ : Glo} {N : Nat → Prop} {S : St} {ρ : List Place} {a : Act} {w : World}

def CellsRep (M : Nat → Prop) (w : World) (ρ : List Place) (l : List DV) (cs : Array Value) : Prop := cs.size = l.length ∧ ∀ j, j < l.length → ∃ u, cs[j]? = some u ∧ RepV M w (l.getD j .any) ρ u

theorem arr_splice : ∀ (vs : List Value) (k off : Nat) (cs : Array Value), ((vs.zipIdx k).foldl (fun (cs : Array Value) (x : Value × Nat) => cs.setIfInBounds (off + x.2) x.1) cs).size = cs.size ∧
    ∀ j, ((vs.zipIdx k).foldl (fun (cs : Array Value) (x : Value × Nat) => cs.setIfInBounds (off + x.2) x.1) cs)[j]? = if off + k ≤ j ∧ j < off + k + vs.length ∧ j < cs.size then vs[j - (off + k)]? else cs[j]?
  | [], k, off, cs => ⟨rfl, fun j => by rw [if_neg]; · rfl
                                        · simp only [List.length_nil]; omega⟩
  | v :: vs, k, off, cs => by
    obtain ⟨h1, h2⟩ := arr_splice vs (k + 1) off (cs.setIfInBounds (off + k) v)
    rw [List.zipIdx_cons, List.foldl_cons]
    refine ⟨by rw [h1]; simp, fun j => ?_⟩
    rw [h2 j, List.length_cons]
    simp only [Array.size_setIfInBounds]
    by_cases e : j = off + k
    · subst e
      rw [if_neg (by omega), Array.getElem?_setIfInBounds, if_pos rfl]
      by_cases hs : off + k < cs.size
      · rw [if_pos hs, if_pos (by omega), Nat.sub_self]; rfl
      · rw [if_neg hs, if_neg (by omega), Array.getElem?_eq_none (by omega)]
    · by_cases e2 : off + (k + 1) ≤ j ∧ j < off + (k + 1) + vs.length ∧ j < cs.size
      · rw [if_pos e2, if_pos (by omega), show j - (off + k) = (j - (off + (k + 1))) + 1 by omega]; simp
      · rw [if_neg e2, if_neg (by omega), Array.getElem?_setIfInBounds, if_neg (by omega)]

theorem fill_sound {M : Nat → Prop} {place : Nat → Option (Nat × Nat)} : ∀ (parts : List (Nat × Operand)) (l : List DV) (cs : Array Value) (r : List DV), CellsRep M w ρ l cs → (∀ x, RepV M w (opd S.fr x) ρ (a.eval x)) →
    fillD place l (parts.map fun x => (x.1, opd S.fr x.2)) = some r → ∃ rs, Instr.fill place cs (parts.map fun x => (x.1, a.eval x.2)) = some rs ∧ CellsRep M w ρ r rs
  | [], l, cs, r, hc, _, h => by cases h; exact ⟨cs, rfl, hc⟩
  | (i, x) :: rest, l, cs, r, hc, hr, h => by
    simp only [List.map_cons, fillD] at h
    split at h
    · cases h
    · rename_i off size hpl
      split at h
      · cases h
      · rename_i ds hds
        split at h
        · rename_i hsz
          obtain ⟨c1, c2⟩ := dcells_spec hds (hr x)
          have hlen : (a.eval x).cells.size = size := by rw [c1, hsz.1]
          have hfit : ¬ (off + (a.eval x).cells.size > cs.size) := by rw [c1, hc.1]; omega
          obtain ⟨s1, s2⟩ := arr_splice (a.eval x).cells.toList 0 off cs
          have hnew : CellsRep M w ρ (splice l off ds) ((a.eval x).cells.zipIdx.foldl (fun cs (c, j) => cs.setIfInBounds (off + j) c) cs) := by
            have e0 : ((a.eval x).cells.zipIdx.foldl (fun cs (c, j) => cs.setIfInBounds (off + j) c) cs) = (((a.eval x).cells.toList.zipIdx 0).foldl (fun (cs : Array Value) (x : Value × Nat) => cs.setIfInBounds (off + x.2) x.1) cs) := by
              rw [← Array.foldl_toList]; simp
            rw [e0]
            refine ⟨by rw [s1, splice_length, hc.1], fun j hj => ?_⟩
            rw [splice_length] at hj
            rw [s2 j, splice_get l off ds hj]
            by_cases e : off ≤ j ∧ j < off + ds.length
            · rw [if_pos (by simp; rw [c1, hc.1]; omega), if_pos e]
              obtain ⟨u, g1, g2⟩ := c2 (j - off) (by omega)
              exact ⟨u, by simpa using g1, g2⟩
            · rw [if_neg (by simp; rw [c1]; omega), if_neg e]
              exact hc.2 j hj
          obtain ⟨rs, g1, g2⟩ := fill_sound rest _ _ r hnew hr h
          refine ⟨rs, ?_, g2⟩
          simp only [List.map_cons, Instr.fill, hpl]
          rw [if_neg (by simp only [Bool.or_eq_true, decide_eq_true_eq]; omega)]
          exact g1
        · cases h

theorem placesB_spec {t : TypeId} {z : Value} {place : Nat → Option (Nat × Nat)} (h : placesB P t = some (z, place)) (parts : List (Nat × Value)) : P.built t parts = Instr.fill place z.cells parts := by
  unfold placesB at h
  unfold Program.built
  repeat' (split at h)
  all_goals first
    | (cases h; done)
    | (cases h; simp_all)

theorem litD_sound (R : Rel P Γ N S ρ a w) {t : TypeId} {parts : Array (Nat × Operand)} {d : DV} {vc : Prop} (h : litD P S t parts.toList = some (d, vc)) : Yl P N w (MS N S.h ρ) ρ (Instr.build t (parts.map fun (i, x) => (i, a.eval x))) d := by
  unfold litD at h
  split at h
  · rename_i z place hp
    split at h
    · rename_i l hl
      cases h
      have h0 : CellsRep (MS N S.h ρ) w ρ (z.cells.toList.map ofV) z.cells := ⟨by simp, fun j hj => by
        have hj' : j < z.cells.size := by simpa using hj
        exact ⟨z.cells[j], by simp [hj'], by
          have : (z.cells.toList.map ofV).getD j .any = ofV z.cells[j] := by simp [hj']
          rw [this]; exact ofV_rep _⟩⟩
      obtain ⟨rs, g1, g2, g3⟩ := fill_sound parts.toList _ _ _ h0 (opd_rep R) hl
      refine Yl.pure (v := .agg rs) (fun W => run_build W t _ rs ?_) ⟨rs, rfl, g2, g3⟩
      rw [placesB_spec hp]
      have e1 : (parts.map fun (i, x) => (i, a.eval x)).toList = parts.toList.map fun x => (x.1, a.eval x.2) := by simp
      rw [e1]; exact g1
    · cases h
  · cases h

theorem run_part {t : TypeId} {cs : Array Value} {off size m : Nat} {f : Nat → DV} {d : DV} {M : Nat → Prop} {i : TypeInfo} (hi : P.info? t = some i) (hsz : i.size = size) (hcs : cs.size = m) (hr : ∀ j, j < m → ∃ u, cs[j]? = some u ∧ RepV M w (f j) ρ u) (h : partD P t m f off size = some d) : Yl P N w M ρ (part t cs off) d := by
  unfold partD at h
  split at h
  · rename_i hle
    split at h
    · rename_i h1
      split at h
      · rename_i hs
        cases h
        obtain ⟨u, g1, g2⟩ := hr off (by omega)
        unfold oneB at h1
        simp only [Bool.and_eq_true, Option.isSome_iff_exists, Bool.not_eq_true'] at h1
        obtain ⟨⟨dd, hd⟩, hn⟩ := h1
        refine Yl.pure (v := u) (fun W => ?_) g2
        unfold part
        rw [Sem.run_bind, run_isAgg' hd]
        simp [Result.andThen, hn, g1]
      · cases h
    · split at h
      · rename_i h2
        cases h
        obtain ⟨h3, i', hi', hs'⟩ := aggB_spec h2
        have ei : i' = i := Option.some.inj (hi'.symm.trans hi)
        subst ei
        obtain ⟨dd, hd⟩ := isAggB_some h3
        refine Yl.pure (v := .agg (cs.extract off (off + size))) (fun W => ?_) ⟨_, rfl, by simp; omega, fun j hj => ?_⟩
        · unfold part
          rw [Sem.run_bind, run_isAgg' hd]
          simp only [Result.andThen, h3, if_true]
          rw [Sem.run_bind, run_sizeOf' hi, hsz]
          rfl
        · obtain ⟨u, g1, g2⟩ := hr (off + j) (by omega)
          refine ⟨u, ?_, tab_rep hj g2⟩
          rw [Array.getElem?_extract]
          rw [if_pos (by omega)]
          exact g1
      · cases h
  · cases h

theorem ixD_sound (R : Rel P Γ N S ρ a w) {t : TypeId} {x d : DV} {vc : Prop} {v : Value} {k : IntKind} {n : Int} (hx : RepV (MS N S.h ρ) w x ρ v) (h : ixD P t x n = some (d, vc)) (hv : vc) : Yl P N w (MS N S.h ρ) ρ (Instr.index t v (.int k n)) d := by
  unfold ixD at h
  split at h
  · rename_i m f
    obtain ⟨cs, rfl, hs, hr⟩ := hx
    split at h
    · rename_i len e hu
      split at h
      · rename_i i hi
        split at h
        · rename_i hc
          cases h
          simp only [Bool.and_eq_true, beq_iff_eq] at hc
          obtain ⟨⟨h1, h2⟩, rfl⟩ := hc
          have hp : partD P e len f n.toNat 1 = some (f n.toNat) := by
            unfold partD
            rw [if_pos (by omega), if_pos h1, if_pos rfl]
          obtain ⟨u, g1, g2⟩ := run_part (P := P) hi h2 hs hr hp
          refine ⟨u, fun W hE => ?_, g2⟩
          unfold Instr.index
          simp only [asIntOf, Sem.run_bind, Sem.run_pure, Result.andThen, run_underlying hu]
          rw [if_pos ⟨hv.1, hv.2⟩]
          simp only [Sem.run_bind, run_sizeOf' hi, Result.andThen, h2, Nat.mul_one]
          exact g1 W hE
        · cases h
      · cases h
    · cases h
  · cases h

theorem fldD_sound (R : Rel P Γ N S ρ a w) {t : TypeId} {x d : DV} {vc : Prop} {v : Value} {fi : Nat} (hx : RepV (MS N S.h ρ) w x ρ v) (h : fldD P t x fi = some (d, vc)) : Yl P N w (MS N S.h ρ) ρ (Instr.field t v fi) d := by
  unfold fldD at h
  split at h
  · rename_i m f
    obtain ⟨cs, rfl, hs, hr⟩ := hx
    split at h
    · rename_i fs hu
      split at h
      · rename_i fd hf
        split at h
        · rename_i i hi
          split at h
          · rename_i d' hp
            cases h
            obtain ⟨u, g1, g2⟩ := run_part (P := P) hi rfl hs hr hp
            refine ⟨u, fun W hE => ?_, g2⟩
            unfold Instr.field
            simp only [Sem.run_bind, run_underlying hu, Result.andThen, hf, asAgg, Sem.run_pure]
            exact g1 W hE
          · cases h
        · cases h
      · cases h
    · cases h
  · cases h

theorem run_bound {k : IntKind} {n : Int} {y : Nat} {c : BoundsCode} (h0 : 0 ≤ n) (h1 : n ≤ y) (W : World) : (Instr.sliceBound (.int k n) y c).run P W = .ok n.toNat W := by
  unfold Instr.sliceBound
  simp only [asIntOf, Sem.run_bind, Sem.run_pure, Result.andThen]
  rw [if_pos ⟨h0, h1⟩]; rfl
theorem intO_rep (R : Rel P Γ N S ρ a w) {o : Option Operand} {l : Option Int} (h : intO S o = some l) : ∃ k, o.map a.eval = l.map (Value.int k) := by
  cases o with
  | none => cases h; exact ⟨.i64, rfl⟩
  | some x =>
    simp only [intO] at h
    split at h
    · rename_i k n e
      cases h
      have := opd_rep R x
      rw [e] at this
      exact ⟨k, by simp only [Option.map_some]; rw [show a.eval x = _ from this]⟩
    · cases h
theorem run_cut {t e : TypeId} {i : TypeInfo} {ad : Option Addr} {len cap : Nat} {kl kh : IntKind} {lo hi : Option Int} (hu : P.underlying t = some (.slice e)) (hi' : P.info? e = some i) (h0 : 0 ≤ lo.getD 0) (h1 : lo.getD 0 ≤ hi.getD len) (h2 : hi.getD len ≤ len) (h3 : len ≤ cap) (W : World) :
    (Instr.sliceAt t (.slice ad len cap) (lo.map (Value.int kl)) (hi.map (Value.int kh)) none).run P W =
      .ok (.slice (if cap = (lo.getD 0).toNat then ad else ad.map (·.add ((lo.getD 0).toNat * i.size))) ((hi.getD len).toNat - (lo.getD 0).toNat) (cap - (lo.getD 0).toNat)) W := by
  have hb : (Instr.sliceBounds true len cap (lo.map (Value.int kl)) (hi.map (Value.int kh)) none).run P W = .ok ((lo.getD 0).toNat, (hi.getD len).toNat, cap) W := by
    cases lo <;> cases hi <;> simp only [Option.map_none, Option.map_some, Option.getD_none, Option.getD_some] at * <;>
      simp (disch := omega) [Instr.sliceBounds, run_bound, Sem.run_bind, Result.andThen]
  unfold Instr.sliceAt
  simp only [Sem.run_bind, run_underlying hu, Result.andThen]
  unfold Instr.slice
  simp only [Sem.run_bind, run_underlying hu, Result.andThen, hb, run_sizeOf' hi']
  rfl

theorem cutD_sound (R : Rel P Γ N S ρ a w) {t : TypeId} {x d : DV} {vc : Prop} {v : Value} {kl kh : IntKind} {lo hi : Option Int} (hx : RepV (MS N S.h ρ) w x ρ v) (h : cutD P t x lo hi = some (d, vc)) (hv : vc) :
    Yl P N w (MS N S.h ρ) ρ (Instr.sliceAt t v (lo.map (Value.int kl)) (hi.map (Value.int kh)) none) d := by
  unfold cutD at h
  split at h
  · rename_i e hu
    split at h
    · rename_i i hi'
      have gd : ∀ {α : Type} (l : List α) (q c j : Nat) (d : α), j < ((l.take c).drop q).length → ((l.take c).drop q).getD j d = l.getD (q + j) d := fun l q c j d hj => by
        simp only [List.length_drop, List.length_take] at hj
        simp only [List.getD_eq_getElem?_getD, List.getElem?_drop, List.getElem?_take]
        rw [if_pos (by omega)]
      split at h
      · rename_i l
        split at h
        · rename_i hs
          cases h
          obtain ⟨ad, cap, rfl, g1, g2, g3⟩ := hx
          obtain ⟨v1, v2, v3⟩ := hv
          have hl : ((l.take (hi.getD l.length).toNat).drop (lo.getD 0).toNat).length = (hi.getD l.length).toNat - (lo.getD 0).toNat := by simp; omega
          refine Yl.pure (fun W => run_cut hu hi' v1 v2 v3 g1 W) ⟨_, _, by rw [hl], by omega, by omega, fun j hj => ?_⟩
          have hj' := hj
          rw [hl] at hj'
          obtain ⟨b, o, rfl, q1, q2⟩ := g3 ((lo.getD 0).toNat + j) (by omega)
          refine ⟨b, o + (lo.getD 0).toNat, ?_, q1, ?_⟩
          · rw [if_neg (by omega)]; simp only [Option.map_some, add_none, hs, Nat.mul_one]
          · rw [gd _ _ _ _ _ hj, Nat.add_assoc]; exact q2
        · cases h
      · rename_i l
        split at h
        · rename_i hs
          cases h
          obtain ⟨ad, cap, rfl, g1, g2, g3⟩ := hx
          obtain ⟨v1, v2, v3⟩ := hv
          have hl : ((l.take (hi.getD l.length).toNat).drop (lo.getD 0).toNat).length = (hi.getD l.length).toNat - (lo.getD 0).toNat := by simp; omega
          refine Yl.pure (fun W => run_cut hu hi' v1 v2 v3 g1 W) ⟨_, _, by rw [hl], by omega, by omega, fun j hj => ?_⟩
          have hj' := hj
          rw [hl] at hj'
          obtain ⟨b, o, rfl, q1, q2⟩ := g3 ((lo.getD 0).toNat + j) (by omega)
          refine ⟨b, o + (lo.getD 0).toNat, ?_, q1, ?_⟩
          · rw [if_neg (by omega)]; simp only [Option.map_some, add_none, hs, Nat.mul_one]
          · rw [gd _ _ _ _ _ hj, Nat.add_assoc]; exact q2
        · cases h
      · rename_i m n f
        split at h
        · rename_i hs
          cases h
          obtain ⟨ad, cap, rfl, g1, g2, g3⟩ := hx
          obtain ⟨v1, v2, v3⟩ := hv
          refine Yl.pure (fun W => run_cut hu hi' v1 v2 v3 g1 W) ⟨_, _, rfl, by omega, by omega, fun i1 j hi1 hj => ?_⟩
          obtain ⟨b, o, u, rfl, q1, q2, q3⟩ := g3 ((lo.getD 0).toNat + i1) j (by omega) hj
          refine ⟨b, o + (lo.getD 0).toNat * m, u, ?_, q1, ?_, q3⟩
          · rw [if_neg (by omega)]; simp only [Option.map_some, add_none, hs]
          · rw [Nat.add_mul, Nat.add_assoc] at q2; rw [Nat.add_assoc]; exact q2
        · cases h
      · rename_i k m off n
        split at h
        · rename_i hs
          cases h
          obtain ⟨p, cap, hp, rfl, g1, g2, g3⟩ := hx
          obtain ⟨v1, v2, v3⟩ := hv
          have hle : (lo.getD 0).toNat ≤ cap := by omega
          refine Yl.pure (fun W => run_cut hu hi' v1 v2 v3 g1 W) ⟨p, _, cap - (lo.getD 0).toNat, hp, rfl, by omega, by omega, fun hc => ⟨?_, ?_⟩⟩
          · rw [if_neg (by omega)]; simp only [Option.map_some, add_none, hs, Nat.add_mul, Nat.add_assoc]
          · have : cap * m = (lo.getD 0).toNat * m + (cap - (lo.getD 0).toNat) * m := by rw [← Nat.add_mul]; congr 1; omega
            rw [Nat.add_mul]; omega
        · cases h
      · cases h
    · cases h
  · cases h

theorem run_eqItems_ints {e : TypeId} {k' : IntKind} {i : TypeInfo} {n d : Nat} {xs ys : Array Value} {f g : Nat → DV} {M : Nat → Prop} (hi : P.info? e = some i) (hs : i.size = 1) (h1 : oneB P e = true) (hk : P.underlying e = some (.int k')) (hx : xs.size = n) (hy : ys.size = n)
    (rx : ∀ j, j < n → ∃ u, xs[j]? = some u ∧ RepV M w (f j) ρ u) (ry : ∀ j, j < n → ∃ u, ys[j]? = some u ∧ RepV M w (g j) ρ u) (hI : ∀ j, j < n → isI (f j) = true ∧ isI (g j) = true) :
    ∀ (is : List Nat), (∀ j ∈ is, j < n) → ∀ W, Keep N w W → (Op.eqItems (d + 1) e 1 xs ys is).run P W = .ok (eqAll f g is) W
  | [], _, W, _ => rfl
  | j :: is, hb, W, hE => by
    have hj : j < n := hb j (by simp)
    have part1 : ∀ {cs : Array Value} {f : Nat → DV}, cs.size = n → (∀ j, j < n → ∃ u, cs[j]? = some u ∧ RepV M w (f j) ρ u) → isI (f j) = true → (part e cs (j * 1)).run P W = .ok (.int .i64 (intD (f j))) W := by
      intro cs f hc hr hf
      have hp : partD P e n f (j * 1) 1 = some (f j) := by
        unfold partD
        rw [if_pos (by omega), if_pos h1, if_pos rfl, Nat.mul_one]
      obtain ⟨u, g1, g2⟩ := run_part (P := P) hi hs hc hr hp
      rw [g1 W hE, isI_spec hf g2]
    simp only [Op.eqItems, Sem.run_bind, part1 hx rx (hI j hj).1, part1 hy ry (hI j hj).2, Result.andThen, run_equalIn_int W d e .i64 k' _ _ hk]
    unfold eqAll
    cases hq : (intD (f j) == intD (g j)) with
    | false => rfl
    | true =>
      simp only [Bool.not_true, Bool.false_eq_true, if_false, Bool.true_and]
      exact run_eqItems_ints hi hs h1 hk hx hy rx ry hI is (fun j hj => hb j (by simp [hj])) W hE
theorem eqaD_sound {M : Nat → Prop} {op : BinOp} {t : TypeId} {x y : DV} {vx vy : Value} {d : DV} {vc : Prop} (ox oy : Operand) (hx : RepV M w x ρ vx) (hy : RepV M w y ρ vy) (h : eqaD P op t x y = some (d, vc)) :
    Yl P N w M ρ (do eqGuard op t ox oy vx vy; binOp op t vx vy) d := by
  have key : ∀ {m m' : Nat} {f g : Nat → DV} {is : List Nat} {xs ys : Array Value}, eqaB P t f g m m' = some is → xs.size = m → ys.size = m' → (∀ j, j < m → ∃ u, xs[j]? = some u ∧ RepV M w (f j) ρ u) → (∀ j, j < m' → ∃ u, ys[j]? = some u ∧ RepV M w (g j) ρ u) →
      P.eqGuardType P.depth t = false ∧ ∀ W, Keep N w W → (Op.equalIn 10000 t (.agg xs) (.agg ys)).run P W = .ok (eqAll f g is) W := by
    intro m m' f g is xs ys hb sx sy rx ry
    unfold eqaB at hb
    split at hb
    · rename_i n e hu
      split at hb
      · rename_i i hi
        split at hb
        · rename_i k' hk
          split at hb
          · rename_i hc
            cases hb
            simp only [Bool.and_eq_true, beq_iff_eq, List.all_eq_true, List.mem_range] at hc
            obtain ⟨⟨⟨⟨⟨c1, c2⟩, c3⟩, c4⟩, c5⟩, c6⟩ := hc
            subst c4; subst c5
            refine ⟨c3, fun W hE => ?_⟩
            have hcell : P.cellsOf e = 1 := by unfold Program.cellsOf; rw [hi]; exact c1
            rw [run_equalIn_array W 9999 xs ys hu hi, hcell]
            exact run_eqItems_ints (d := 9998) hi c1 c2 hk sx sy rx ry c6 _ (fun j hj => List.mem_range.1 hj) W hE
          · cases hb
        · cases hb
      · cases hb
    · cases hb
  unfold eqaD at h
  split at h
  · rename_i m f m' g
    split at h
    · rename_i is hb
      cases h
      obtain ⟨xs, rfl, sx, rx⟩ := hx
      obtain ⟨ys, rfl, sy, ry⟩ := hy
      obtain ⟨k1, k2⟩ := key hb sx sy rx ry
      refine ⟨.bool _, fun W hE => ?_, rfl⟩
      simp only [Sem.run_bind, run_eqGuard_agg W .eql t ox oy xs ys k1, Result.andThen, run_eql_struct, k2 W hE]
    · cases h
  · rename_i m f m' g
    split at h
    · rename_i is hb
      cases h
      obtain ⟨xs, rfl, sx, rx⟩ := hx
      obtain ⟨ys, rfl, sy, ry⟩ := hy
      obtain ⟨k1, k2⟩ := key hb sx sy rx ry
      refine ⟨.bool _, fun W hE => ?_, rfl⟩
      simp only [Sem.run_bind, run_eqGuard_agg W .neq t ox oy xs ys k1, Result.andThen, run_neq_struct, k2 W hE]
    · cases h
  · cases h
theorem pops_sound (R : Rel P Γ N S ρ a w) (o : Oper) {d : DV} {vc : Prop} (h : pops P S o.op = some (d, vc)) (hv : vc) :
    ∃ v, (∀ W, Keep N w W → (execOp a.eval o).run P W = .ok (.value v) W) ∧ RepV (MS N S.h ρ) w d ρ v := by
  unfold pops at h
  split at h
  · rename_i t parts ho
    exact execOp_value (by unfold execOp; rw [ho]) (litD_sound R h)
  · rename_i t x i ho
    have hi := opd_rep R i
    split at h
    · rename_i k n e
      rw [e] at hi
      refine execOp_value (s := Instr.index t (a.eval x) (a.eval i)) (by unfold execOp; rw [ho]) ?_
      rw [show a.eval i = _ from hi]
      exact ixD_sound R (opd_rep R x) h hv
    · cases h
  · rename_i t x f ho
    exact execOp_value (s := Instr.field t (a.eval x) f) (by unfold execOp; rw [ho]) (fldD_sound R (opd_rep R x) h)
  · rename_i t x lo hi ho
    split at h
    · rename_i l hl
      split at h
      · rename_i hh hhh
        obtain ⟨k1, e1⟩ := intO_rep R hl
        obtain ⟨k2, e2⟩ := intO_rep R hhh
        refine execOp_value (s := Instr.sliceAt t (a.eval x) (lo.map a.eval) (hi.map a.eval) none) (by unfold execOp; rw [ho]; rfl) ?_
        rw [e1, e2]
        exact cutD_sound R (opd_rep R x) h hv
      · cases h
    · cases h
  · rename_i op t x y t' ho
    split at h
    · rename_i r hr
      cases h
      exact execOp_value (by unfold execOp; rw [ho]) (eqaD_sound x y (opd_rep R x) (opd_rep R y) hr)
    · rw [← ho] at h; exact pop_sound R o h hv
  · exact pop_sound R o h hv
end
end Go.Proofs.YtekkngkphejfcaaDoor
