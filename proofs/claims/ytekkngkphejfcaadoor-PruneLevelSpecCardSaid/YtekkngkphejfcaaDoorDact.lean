/- What an operation that makes or writes memory, or calls, does to the plainer view; that it is so. -/
import Derived.Test.YtekkngkphejfcaaDoorDop
import Derived.Deep.AppendSrc
import Derived.Laws.MakeOwn
import Derived.Great.BuildSlice
namespace Go.Proofs.YtekkngkphejfcaaDoor
open Go.RowKit

def oneC : DV → Bool
  | .any => false
  | .agg .. => false
  | .tup .. => false
  | .it _ => false
  | .yl _ => false
  | .mse .. => false
  | .mri .. => false
  | _ => true
def dcells : DV → Option (List DV)
  | .agg m f => some ((List.range m).map f)
  | .any => none
  | .tup .. => none
  | .it _ => none
  | .yl _ => none
  | .mse .. => none
  | .mri .. => none
  | d => some [d]
/-- Without references. -/
def plainC : DV → Bool
  | .int .. => true
  | .bool _ => true
  | .str _ => true
  | .nils => true
  | .ints _ => true
  | .bools _ => true
  | .sl .. => true
  | _ => false

section
variable {P : Program} {Γ : Glo} {N : Nat → Prop} {S : St} {ρ : List Place} {a : Act} {w : World}

theorem oneC_val {M : Nat → Prop} {d : DV} {v : Value} (h : oneC d = true) (hr : RepV M w d ρ v) : v.oneCell' = true ∧ v.cells = #[v] := by
  have key : (∀ cs, v ≠ .agg cs) → (∀ cs, v ≠ .tuple cs) → v.oneCell' = true ∧ v.cells = #[v] := fun h1 h2 => by
    cases v <;> first | exact ⟨rfl, rfl⟩ | exact absurd rfl (h1 _) | exact absurd rfl (h2 _)
  cases d with
  | any => cases h
  | agg m f => cases h
  | tup m f => cases h
  | nils => exact key (fun cs e => by rw [hr] at e; cases e) (fun cs e => by rw [hr] at e; cases e)
  | int k n => exact key (fun cs e => by rw [hr] at e; cases e) (fun cs e => by rw [hr] at e; cases e)
  | bool b => exact key (fun cs e => by rw [hr] at e; cases e) (fun cs e => by rw [hr] at e; cases e)
  | str s => exact key (fun cs e => by rw [hr] at e; cases e) (fun cs e => by rw [hr] at e; cases e)
  | ints l => obtain ⟨_, _, rfl, _⟩ := hr; exact ⟨rfl, rfl⟩
  | bools l => obtain ⟨_, _, rfl, _⟩ := hr; exact ⟨rfl, rfl⟩
  | sl m n f => obtain ⟨_, _, rfl, _⟩ := hr; exact ⟨rfl, rfl⟩
  | fp m f => obtain ⟨_, _, rfl, _⟩ := hr; exact ⟨rfl, rfl⟩
  | ref k j => obtain ⟨_, _, rfl⟩ := hr; exact ⟨rfl, rfl⟩
  | msl k m off n => obtain ⟨_, _, _, rfl, _⟩ := hr; exact ⟨rfl, rfl⟩
  | mp k m i j => obtain ⟨_, _, rfl⟩ := hr; exact ⟨rfl, rfl⟩
  | fn g m c => obtain ⟨_, rfl, _⟩ := hr; exact ⟨rfl, rfl⟩
  | it k => cases h
  | yl l => cases h
  | mse k m o n => cases h
  | mri k i => cases h
  | cst u => obtain ⟨rfl, hu⟩ := hr; cases v <;> first | exact ⟨rfl, rfl⟩ | (cases hu; done)

theorem dcells_spec {M : Nat → Prop} {d : DV} {v : Value} {l : List DV} (h : dcells d = some l) (hr : RepV M w d ρ v) : v.cells.size = l.length ∧ ∀ j, j < l.length → ∃ u, v.cells[j]? = some u ∧ RepV M w (l.getD j .any) ρ u := by
  have one : oneC d = true → l = [d] → v.cells.size = l.length ∧ ∀ j, j < l.length → ∃ u, v.cells[j]? = some u ∧ RepV M w (l.getD j .any) ρ u := by
    intro h1 h2
    subst h2
    rw [(oneC_val h1 hr).2]
    refine ⟨rfl, fun j hj => ?_⟩
    have : j = 0 := by simpa using hj
    subst this
    exact ⟨v, rfl, hr⟩
  cases d with
  | any => cases h
  | tup m f => cases h
  | it k => cases h
  | yl l => cases h
  | mse k m o n => cases h
  | mri k i => cases h
  | cst u => exact one rfl (Option.some.inj h).symm
  | agg m f =>
    cases h
    obtain ⟨cs, rfl, hs, hc⟩ := hr
    refine ⟨by simpa [Value.cells] using hs, fun j hj => ?_⟩
    have hj' : j < m := by simpa using hj
    obtain ⟨u, h1, h2⟩ := hc j hj'
    exact ⟨u, h1, by simpa [hj'] using h2⟩
  | nils => cases h; exact one rfl rfl
  | int k n => cases h; exact one rfl rfl
  | bool b => cases h; exact one rfl rfl
  | str s => cases h; exact one rfl rfl
  | ints l => cases h; exact one rfl rfl
  | bools l => cases h; exact one rfl rfl
  | sl m n f => cases h; exact one rfl rfl
  | fp m f => cases h; exact one rfl rfl
  | ref k j => cases h; exact one rfl rfl
  | msl k m off n => cases h; exact one rfl rfl
  | mp k m i j => cases h; exact one rfl rfl
  | fn g m c => cases h; exact one rfl rfl

theorem plainC_nil {M : Nat → Prop} {d : DV} {v : Value} (h : plainC d = true) (hr : RepV M w d ρ v) : RepV M w d [] v := by
  cases d <;> first | exact hr | (cases h; done)

/-- What comes of it. -/
structure Got (P : Program) (Γ : Glo) (N : Nat → Prop) (h : DH) (ρ : List Place) (w : World) (ext : Bool) (d : DV) (h' : DH) (v : Value) (w' : World) : Prop where
  ex : ∃ ρ', HRel P Γ N h' ρ' w' ∧ RepV (MS N h' ρ') w' d ρ' v ∧ Step h ρ w h' ρ' w' ∧ (∀ (k : Nat) (p : Place), ρ[k]? = some p → ρ'[k]? = some p)
  ext : ext = true → Ext w w'

/-- An operation does so: it yields a value, or nothing, or enters a function that returns one. -/
def Does (P : Program) (s : Sem Next) (w : World) (G : Value → World → Prop) : Prop :=
  (∃ v w', s.run P w = .ok (.value v) w' ∧ G v w') ∨ (∃ w', s.run P w = .ok .skip w' ∧ G undef w') ∨
  (∃ f args w', s.run P w = .ok (.enter f args) w' ∧ Calls P f args w' fun e w'' => ∃ v, e = .returned v ∧ G v w'')
theorem Does.value {G : Value → World → Prop} {ρ' : Operand → Value} {o : Oper} {s : Sem Value} {v : Value} {w' : World} (he : execOp ρ' o = (do pure (.value (← s)))) (h : s.run P w = .ok v w') (hG : G v w') : Does P (execOp ρ' o) w G :=
  .inl ⟨v, w', by rw [he, Sem.run_bind, h]; rfl, hG⟩
theorem Does.skip {G : Value → World → Prop} {ρ' : Operand → Value} {o : Oper} {s : Sem Unit} {w' : World} (he : execOp ρ' o = (do s; pure .skip)) (h : s.run P w = .ok () w') (hG : G undef w') : Does P (execOp ρ' o) w G :=
  .inr (.inl ⟨w', by rw [he, Sem.run_bind, h]; rfl, hG⟩)

/-- A new row of cells. -/
def newPlace (w : World) (room : Nat) : Place := ⟨w.heap.size, 0, room, undef, fun b => b = w.heap.size⟩
theorem got_new (H : HRel P Γ N S.h ρ w) {cs : Array Value} {t : TypeId} {o : DO} {d : DV} {v : Value} {w1 : World} (hw1 : Ext w w1 ∧ w1.heap.size = w.heap.size)
    (ho : ∀ M ρ', Outl (MS N S.h ρ) w ρ M (w1.alloc (.cells cs t)) ρ' → ObjRep P M (w1.alloc (.cells cs t)) ρ' (newPlace w cs.size) o)
    (hv : ∀ M ρ', ρ'[S.h.length]? = some (newPlace w cs.size) → RepV M (w1.alloc (.cells cs t)) d ρ' v) (ext : Bool) :
    Got P Γ N S.h ρ w ext d (S.h ++ [some o]) v (w1.alloc (.cells cs t)) := by
  have hE : Ext w (w1.alloc (.cells cs t)) := hw1.1.allocR _
  have hf : ∀ b, (newPlace w cs.size).foot b → w.heap.size ≤ b := fun b hb => Nat.le_of_eq (Eq.symm hb)
  have hb : (w1.alloc (.cells cs t)).heap[w.heap.size]? = some (.cells cs t (0, 0)) := by rw [← hw1.2]; exact heap_alloc_new w1 _
  refine ⟨⟨ρ ++ [newPlace w cs.size], H.snoc hE (fun b hx => ⟨hf b hx, .cells (c := cs) (t := t) (z := (0, 0)) (by rw [show b = w.heap.size from hx]; exact hb)⟩) (ho _ _ (Outl.snoc H hE hf)), ?_, Step.snoc H hE hf, fun k p hk => get_snoc_left hk⟩, fun _ => hE⟩
  exact hv _ _ (by rw [← H.len]; simp)
theorem row_new {cs : Array Value} {t : TypeId} {w1 : World} (hs : w1.heap.size = w.heap.size) {n : Nat} {R : Nat → Value → Prop} (hn : n ≤ cs.size) (hR : ∀ j, j < n → ∃ u, cs[j]? = some u ∧ R j u) : RowAt (w1.alloc (.cells cs t)) (newPlace w cs.size) n R := by
  refine ⟨rfl, cs, t, ?_, by simpa [newPlace] using hn, Nat.le_refl _, fun j hj => by simpa [newPlace] using hR j hj⟩
  show (w1.alloc (.cells cs t)).heap[w.heap.size]? = _
  rw [← hs]; exact heap_alloc_new w1 _

theorem box_got (R : Rel P Γ N S ρ a w) {x : Operand} {t : TypeId} {l : List DV} (h : dcells (opd S.fr x) = some l) (o : Oper) (ho : o.op = .box t x) (ext : Bool) :
    Does P (execOp a.eval o) w (Got P Γ N S.h ρ w ext (.ref S.h.length 0) (S.h ++ [some (.cells l)])) := by
  obtain ⟨h1, h2⟩ := dcells_spec h (opd_rep R x)
  refine Does.value (s := Instr.box t (a.eval x)) (by unfold execOp; rw [ho]) (v := .pointer (some ⟨w.heap.size, 0, none⟩)) (w' := w.alloc (.cells (a.eval x).cells t)) ?_ ?_
  · rfl
  · refine got_new (d := .ref S.h.length 0) R.hr ⟨Ext.refl w, rfl⟩ (fun M ρ' O => ?_) (fun M ρ' hp => ⟨_, hp, rfl⟩) ext
    refine row_new rfl (by omega) fun j hj => ?_
    obtain ⟨u, g1, g2⟩ := h2 j hj
    exact ⟨u, g1, g2.out _ O⟩

theorem alloc_got (R : Rel P Γ N S ρ a w) {t : TypeId} {i : TypeInfo} {z : Value} (hi : P.info? t = some i) (hz : i.zero = some z) (o : Oper) (ho : o.op = .alloc t) (ext : Bool) :
    Does P (execOp a.eval o) w (Got P Γ N S.h ρ w ext (.ref S.h.length 0) (S.h ++ [some (.cells (z.cells.toList.map ofV))])) := by
  refine Does.value (s := Instr.alloc t true (.tuple #[])) (by unfold execOp; rw [ho]) (v := .pointer (some ⟨w.heap.size, 0, none⟩)) (w' := w.alloc (.cells z.cells t)) ?_ ?_
  · simp [Instr.alloc, zeroValue, typeInfo, hi, hz, newVar, newRow, newObj]; rfl
  · refine got_new (d := .ref S.h.length 0) R.hr ⟨Ext.refl w, rfl⟩ (fun M ρ' O => ?_) (fun M ρ' hp => ⟨_, hp, rfl⟩) ext
    refine row_new rfl (by simp) fun j hj => ?_
    have hj' : j < z.cells.size := by simpa using hj
    refine ⟨z.cells[j], by simp [hj'], ?_⟩
    have : (z.cells.toList.map ofV).getD j .any = ofV z.cells[j] := by simp [hj']
    rw [this]; exact ofV_rep _

/-- An array of bools becomes a row. -/
def falseB : Value → Bool
  | .bool false => true
  | _ => false
def zboolsB (z : Value) : Bool := decide (2 < z.cells.size) && z.cells.toList.all falseB
theorem alloc_bools_got (R : Rel P Γ N S ρ a w) {t : TypeId} {i : TypeInfo} {z : Value} (hi : P.info? t = some i) (hz : i.zero = some z) (hb : zboolsB z = true) (o : Oper) (ho : o.op = .alloc t) (ext : Bool) :
    Does P (execOp a.eval o) w (Got P Γ N S.h ρ w ext (.mp S.h.length 1 0 0) (S.h ++ [some (.bools (List.replicate z.cells.size false))])) := by
  refine Does.value (s := Instr.alloc t true (.tuple #[])) (by unfold execOp; rw [ho]) (v := .pointer (some ⟨w.heap.size, 0, none⟩)) (w' := w.alloc (.cells z.cells t)) ?_ ?_
  · simp [Instr.alloc, zeroValue, typeInfo, hi, hz, newVar, newRow, newObj]; rfl
  · refine got_new (d := .mp S.h.length 1 0 0) R.hr ⟨Ext.refl w, rfl⟩ (fun M ρ' O => ?_) (fun M ρ' hp => ⟨_, hp, rfl⟩) ext
    refine row_new rfl (by simp) fun j hj => ?_
    have hj' : j < z.cells.size := by simpa using hj
    refine ⟨z.cells[j], by simp [hj'], ?_⟩
    simp only [zboolsB, Bool.and_eq_true, List.all_eq_true] at hb
    have := hb.2 z.cells[j] (by simp)
    unfold falseB at this
    split at this
    · rename_i e; rw [e]; simp [hj']
    · cases this

/-- The kind of a slice's elements: integers, bools, others of so many cells. -/
inductive EK where
  | ints
  | bools
  | gen (m : Nat)
def ekB (P : Program) (t : TypeId) : Option (EK × TypeId × TypeInfo × Value) := match P.underlying t with
  | some (.slice e) => match P.info? e with
    | some i => match i.zero with
      | some z => if i.size = 0 then none else if z.cells.size ≠ i.size then none else match P.underlying e with
        | some (.int .i64) => if i.size = 1 then (match z with | .int .i64 0 => some (.ints, e, i, z) | _ => none) else none
        | some .bool => if i.size = 1 then (match z with | .bool false => some (.bools, e, i, z) | _ => none) else none
        | _ => some (.gen i.size, e, i, z)
      | none => none
    | none => none
  | _ => none
def EK.cells : EK → Nat
  | .ints => 1
  | .bools => 1
  | .gen m => m
theorem ekB_spec {t : TypeId} {k : EK} {e : TypeId} {i : TypeInfo} {z : Value} (h : ekB P t = some (k, e, i, z)) : P.underlying t = some (.slice e) ∧ P.info? e = some i ∧ i.zero = some z ∧ i.size ≠ 0 ∧ z.cells.size = i.size ∧ k.cells = i.size ∧
    (k = .ints → z = .int .i64 0) ∧ (k = .bools → z = .bool false) := by
  unfold ekB at h
  repeat' (split at h)
  all_goals first
    | (cases h; done)
    | skip
  all_goals
    simp only [Option.some.injEq, Prod.mk.injEq] at h
    obtain ⟨rfl, rfl, rfl, rfl⟩ := h
    refine ⟨by assumption, by assumption, by assumption, by assumption, by simp_all, ?_, ?_, ?_⟩
    · simp_all [EK.cells]
    · intro hk; first | rfl | cases hk
    · intro hk; first | rfl | cases hk

/-- A row as a function, for each kind. -/
def rowR (k : EK) (M : Nat → Prop) (w : World) (f : Nat → Nat → DV) (j : Nat) (u : Value) : Prop := RepV M w (f (j / k.cells) (j % k.cells)) [] u
def DOof (k : EK) (n : Nat) (f : Nat → Nat → DV) (li : List Int) (lb : List Bool) : DO := match k with
  | .ints => .ints li
  | .bools => .bools lb
  | .gen m => .arr m n f

theorem getElem_flat {s : Nat} (hs : 0 < s) : ∀ (vs : List Value), (∀ v ∈ vs, v.cells.size = s) → ∀ i j, i < vs.length → j < s → (vs.flatMap fun v => v.cells.toList)[i * s + j]? = (vs[i]?).bind (fun v => v.cells[j]?)
  | [], _, i, j, hi, _ => absurd hi (Nat.not_lt_zero i)
  | v :: vs, hv, i, j, hi, hj => by
    have hvs : v.cells.toList.length = s := by simpa using hv v (by simp)
    rw [List.flatMap_cons]
    cases i with
    | zero => rw [Nat.zero_mul, Nat.zero_add, List.getElem?_append_left (by omega)]; simp
    | succ i =>
      rw [List.getElem?_append_right (by rw [hvs, Nat.succ_mul]; omega), hvs, show (i + 1) * s + j - s = i * s + j by rw [Nat.succ_mul]; omega]
      rw [getElem_flat hs vs (fun v h => hv v (by simp [h])) i j (by simpa using hi) hj]
      simp

def intD : DV → Int
  | .int _ n => n
  | _ => 0
def boolD : DV → Bool
  | .bool b => b
  | _ => false
def isI : DV → Bool
  | .int .i64 _ => true
  | _ => false
def isB : DV → Bool
  | .bool _ => true
  | _ => false
/-- A literal of a slice. -/
def buildD (k : EK) (ds : List DV) : Option DO := match k with
  | .ints => if ds.all isI then some (.ints (ds.map intD)) else none
  | .bools => if ds.all isB then some (.bools (ds.map boolD)) else none
  | .gen m => if ds.all fun d => (match dcells d with | some l => l.length == m && l.all plainC | none => false) then
      some (.arr m ds.length (fun i j => match dcells (ds.getD i .any) with | some l => l.getD j .any | none => .any)) else none

theorem isI_spec {M : Nat → Prop} {d : DV} {v : Value} (h : isI d = true) (hr : RepV M w d ρ v) : v = .int .i64 (intD d) := by
  unfold isI at h
  split at h
  · exact hr
  · cases h
theorem isB_spec {M : Nat → Prop} {d : DV} {v : Value} (h : isB d = true) (hr : RepV M w d ρ v) : v = .bool (boolD d) := by
  unfold isB at h
  split at h
  · exact hr
  · cases h

theorem buildD_row {M : Nat → Prop} {k : EK} {ds : List DV} {o : DO} {vs : List Value} (hk : 0 < k.cells) (h : buildD k ds = some o) (hl : vs.length = ds.length) (hv : ∀ i, i < ds.length → RepV M w (ds.getD i .any) ρ (vs.getD i undef)) :
    (∀ v ∈ vs, v.cells.size = k.cells) ∧ ∀ M' (w' : World) ρ', Outl M w ρ M' w' ρ' → ∀ (cs : Array Value) (t : TypeId) (p : Place), cs.toList = (vs.flatMap fun v => v.cells.toList) → RowAt w' p (ds.length * k.cells) (fun j u => cs[j]? = some u) → ObjRep P M' w' ρ' p o := by
  have one : ∀ {j : Nat}, k.cells = 1 → j < ds.length * k.cells → (∀ v ∈ vs, v.cells.size = k.cells) → ∀ {u}, (vs.flatMap fun v => v.cells.toList)[j]? = some u → (vs[j]?).bind (fun v => v.cells[0]?) = some u := fun {j} h1 hj hs {u} hu => by
    rw [h1] at hj hs
    have := getElem_flat (s := 1) (by omega) vs hs j 0 (by omega) (by omega)
    rw [Nat.mul_one, Nat.add_zero] at this
    rw [← this]; exact hu
  have mem : ∀ v ∈ vs, ∃ i, i < ds.length ∧ v = vs.getD i undef ∧ vs[i]? = some v := fun v hv => by
    obtain ⟨i, hi, rfl⟩ := List.getElem_of_mem hv
    exact ⟨i, by omega, by simp [hi], by simp [hi]⟩
  have dmem : ∀ i, i < ds.length → ds.getD i .any ∈ ds := fun i hi => by simp [hi]
  cases k with
  | ints =>
    simp only [buildD] at h
    split at h
    · rename_i ha
      cases h
      have hI : ∀ i, i < ds.length → vs.getD i undef = .int .i64 (intD (ds.getD i .any)) := fun i hi => isI_spec (List.all_eq_true.1 ha _ (dmem i hi)) (hv i hi)
      have hs : ∀ v ∈ vs, v.cells.size = EK.ints.cells := fun v hvm => by obtain ⟨i, hi, e, _⟩ := mem v hvm; rw [e, hI i hi]; rfl
      refine ⟨hs, fun M' w' ρ' O cs t p hcs hr => ?_⟩
      have hn : ds.length * EK.ints.cells = (ds.map intD).length := by simp [EK.cells]
      rw [hn] at hr
      refine RowAt.out hr rfl fun j u hj hu => ?_
      have hj' : j < ds.length := by simpa using hj
      have h2 := one rfl (by simpa [EK.cells] using hj') hs (u := u) (by rw [← hcs]; simpa using hu)
      rw [List.getElem?_eq_getElem (by omega)] at h2
      have h3 := hI j hj'
      have h4 : vs.getD j undef = vs[j] := by simp [hl, hj']
      rw [h4] at h3
      simp only [Option.bind_some, h3] at h2
      have : u = Value.int .i64 (intD (ds.getD j .any)) := by simpa [Value.cells] using h2.symm
      rw [this]; simp [hj']
    · cases h
  | bools =>
    simp only [buildD] at h
    split at h
    · rename_i ha
      cases h
      have hI : ∀ i, i < ds.length → vs.getD i undef = .bool (boolD (ds.getD i .any)) := fun i hi => isB_spec (List.all_eq_true.1 ha _ (dmem i hi)) (hv i hi)
      have hs : ∀ v ∈ vs, v.cells.size = EK.bools.cells := fun v hvm => by obtain ⟨i, hi, e, _⟩ := mem v hvm; rw [e, hI i hi]; rfl
      refine ⟨hs, fun M' w' ρ' O cs t p hcs hr => ?_⟩
      have hn : ds.length * EK.bools.cells = (ds.map boolD).length := by simp [EK.cells]
      rw [hn] at hr
      refine RowAt.out hr rfl fun j u hj hu => ?_
      have hj' : j < ds.length := by simpa using hj
      have h2 := one rfl (by simpa [EK.cells] using hj') hs (u := u) (by rw [← hcs]; simpa using hu)
      rw [List.getElem?_eq_getElem (by omega)] at h2
      have h3 := hI j hj'
      have h4 : vs.getD j undef = vs[j] := by simp [hl, hj']
      rw [h4] at h3
      simp only [Option.bind_some, h3] at h2
      have : u = Value.bool (boolD (ds.getD j .any)) := by simpa [Value.cells] using h2.symm
      rw [this]; simp [hj']
    · cases h
  | gen m =>
    simp only [buildD] at h
    split at h
    · rename_i ha
      cases h
      have hm : 0 < m := hk
      have hI : ∀ i, i < ds.length → ∃ l, dcells (ds.getD i .any) = some l ∧ l.length = m ∧ (∀ d ∈ l, plainC d = true) := fun i hi => by
        have := List.all_eq_true.1 ha _ (dmem i hi)
        split at this
        · rename_i l hl
          simp only [Bool.and_eq_true, beq_iff_eq] at this
          exact ⟨l, hl, this.1, fun d hd => List.all_eq_true.1 this.2 d hd⟩
        · cases this
      have hs : ∀ v ∈ vs, v.cells.size = (EK.gen m).cells := fun v hvm => by
        obtain ⟨i, hi, e, _⟩ := mem v hvm
        obtain ⟨l, h1, h2, _⟩ := hI i hi
        rw [e, (dcells_spec h1 (hv i hi)).1, h2]; rfl
      refine ⟨hs, fun M' w' ρ' O cs t p hcs hr => ?_⟩
      refine RowAt.out hr rfl fun j u hj hu => ?_
      have hj0 : j < ds.length * m := hj
      have hi : j / m < ds.length := by rw [Nat.div_lt_iff_lt_mul hm]; exact hj0
      have hc : j % m < m := Nat.mod_lt _ hm
      obtain ⟨l, h1, h2, h3⟩ := hI (j / m) hi
      have h4 := getElem_flat (s := m) hm vs hs (j / m) (j % m) (by omega) hc
      rw [show j / m * m + j % m = j by rw [Nat.mul_comm]; exact Nat.div_add_mod j m] at h4
      obtain ⟨_, h5⟩ := dcells_spec h1 (hv (j / m) hi)
      obtain ⟨u', g1, g2⟩ := h5 (j % m) (by omega)
      have h6 : vs.getD (j / m) undef = vs[j / m]'(by omega) := by simp [hl, hi]
      have hlt : j / m < vs.length := by omega
      rw [List.getElem?_eq_getElem hlt] at h4
      rw [h6] at g1
      have : u = u' := by
        have hu' : (vs.flatMap fun v => v.cells.toList)[j]? = some u := by rw [← hcs]; simpa using hu
        rw [h4] at hu'
        simp only [Option.bind_some] at hu'
        rw [g1] at hu'; exact (Option.some.inj hu').symm
      subst this
      simp only [h1]
      refine RepV.out _ O.nil (plainC_nil (h3 _ ?_) g2)
      simp [h2, hc]
    · cases h

theorem row_made {cs : Array Value} {t : TypeId} {w1 : World} (hs : w1.heap.size = w.heap.size) {n : Nat} (hn : cs.size = n) : RowAt (w1.alloc (.cells cs t)) (newPlace w n) n (fun j u => cs[j]? = some u) := by
  subst hn
  exact row_new hs (Nat.le_refl _) fun j hj => ⟨cs[j], by simp [hj], by simp [hj]⟩

/-- The operands of a literal, in order. -/
def denseB (parts : List (Nat × Operand)) (len : Nat) : Bool := parts.map (·.1) == List.range len
theorem denseB_spec {parts : List (Nat × Operand)} {len : Nat} (h : denseB parts len = true) (f : Operand → Value) : parts.length = len ∧ (parts.map fun x => (x.1, f x.2)) = ((parts.map fun x => f x.2).zipIdx 0).map fun x => (x.2, x.1) := by
  simp only [denseB, beq_iff_eq] at h
  have hl : parts.length = len := by have := congrArg List.length h; simpa using this
  refine ⟨hl, List.ext_getElem? fun i => ?_⟩
  by_cases hi : i < parts.length
  · have h1 : parts[i].1 = i := by
      have h2 := congrArg (fun l : List Nat => l[i]?) h
      have h3 : (List.range len)[i]? = some i := List.getElem?_range (by omega)
      simp only [List.getElem?_map, List.getElem?_eq_getElem hi, Option.map_some, h3] at h2
      exact Option.some.inj h2
    simp [hi, h1]
  · rw [List.getElem?_eq_none (by simpa using hi), List.getElem?_eq_none (by simpa using hi)]

theorem buildSlice_got (R : Rel P Γ N S ρ a w) {t : TypeId} {len : Nat} {parts : Array (Nat × Operand)} {k : EK} {e : TypeId} {i : TypeInfo} {z : Value} {ob : DO} (hk : ekB P t = some (k, e, i, z)) (hd : denseB parts.toList len = true) (hlen : len ≤ 65536 ∧ k.cells ≤ 64)
    (hb : buildD k (parts.toList.map fun x => opd S.fr x.2) = some ob) (o : Oper) (ho : o.op = .buildSlice t len parts) (ext : Bool) :
    Does P (execOp a.eval o) w (Got P Γ N S.h ρ w ext (.msl S.h.length k.cells 0 len) (S.h ++ [some ob])) := by
  obtain ⟨hu, hi, hz, h0, hzs, hks, _, _⟩ := ekB_spec hk
  obtain ⟨hpl, hpe⟩ := denseB_spec hd a.eval
  have hlen1 := hlen.1
  have hlen2 := hlen.2
  have hpos : 0 < k.cells := by omega
  obtain ⟨hs, hrow⟩ := buildD_row (w := w) (M := MS N S.h ρ) (ρ := ρ) (vs := parts.toList.map fun x => a.eval x.2) hpos hb (by simp) (fun j hj => by
    have hj' : j < parts.toList.length := by simpa using hj
    have := opd_rep R parts.toList[j].2
    simp only [List.getD_eq_getElem?_getD, List.getElem?_map, List.getElem?_eq_getElem hj', Option.map_some, Option.getD_some]
    exact this)
  have hvl : (parts.toList.map fun x => a.eval x.2).length = len := by simpa using hpl
  have hcl : ((parts.toList.map fun x => a.eval x.2).flatMap fun v => v.cells.toList).toArray.size = len * k.cells := by
    have : ∀ (l : List Value), (∀ v ∈ l, v.cells.size = k.cells) → (l.flatMap fun v => v.cells.toList).length = l.length * k.cells := by
      intro l
      induction l with
      | nil => intro _; simp
      | cons v l ih => intro h; rw [List.flatMap_cons, List.length_append, ih (fun v hv => h v (by simp [hv])), List.length_cons, Nat.succ_mul]; have := h v (by simp); simp [this]; omega
    simp only [List.size_toArray]
    rw [this _ hs, hvl]
  refine Does.value (s := Instr.buildSlice t len (parts.map fun (i, x) => (i, a.eval x))) (by unfold execOp; rw [ho]) (v := .slice (some ⟨w.heap.size, 0, none⟩) len len) (w' := w.alloc (.cells ((parts.toList.map fun x => a.eval x.2).flatMap fun v => v.cells.toList).toArray e)) ?_ ?_
  · have hsmall : ¬ len * i.size > 2 ^ 24 := by
      have : len * i.size ≤ 65536 * 64 := Nat.mul_le_mul hlen1 (by omega)
      omega
    by_cases hl0 : len = 0
    · subst hl0
      have hp : parts = #[] := by
        have : parts.toList = [] := List.eq_nil_of_length_eq_zero hpl
        cases parts; simp at this; simp [this]
      subst hp
      have hr0 : Array.map (fun (x : Nat) => (default : Value)) (Array.range 0) = #[] := by simp [Array.range_zero']
      simp [Instr.buildSlice, run_underlying hu, sizeOf, typeInfo, hi, newRow, Instr.fill, Array.range_zero']
    · have hp0 : ¬ len * i.size = 0 := by rw [Nat.mul_eq_zero]; omega
      refine run_buildSlice w t e len _ _ i z hu hi hz hsmall hp0 ?_
      have e1 : (parts.map fun (i, x) => (i, a.eval x)).toList = parts.toList.map fun x => (x.1, a.eval x.2) := by simp
      rw [e1, hpe]
      exact Great.fill_whole (s := i.size) (by omega) _ _ (fun v hv => by rw [hs v hv, hks]) (by rw [hvl, Array.size_map, Array.size_range])
  · have := got_new (d := .msl S.h.length k.cells 0 len) (o := ob) (v := .slice (some ⟨w.heap.size, 0, none⟩) len len) (cs := ((parts.toList.map fun x => a.eval x.2).flatMap fun v => v.cells.toList).toArray) (t := e) R.hr ⟨Ext.refl w, rfl⟩
      (fun M ρ' O => hrow _ _ _ O ((parts.toList.map fun x => a.eval x.2).flatMap fun v => v.cells.toList).toArray e _ rfl (by rw [hcl, List.length_map, hpl]; exact row_made (w := w) (w1 := w) (t := e) rfl hcl))
      (fun M ρ' hp => ⟨_, len, hp, by simp [newPlace], Nat.le_refl _, by unfold LB; omega, by simp only [newPlace]; rw [hcl]; omega⟩) ext
    exact this

def makeD (k : EK) (n : Nat) (z : Value) : DO := match k with
  | .ints => .ints (List.replicate n 0)
  | .bools => .bools (List.replicate n false)
  | .gen m => .arr m n (fun _ j => (z.cells.toList.map ofV).getD j .any)
theorem makeSlice_got (R : Rel P Γ N S ρ a w) {t : TypeId} {x y : Operand} {k : EK} {e : TypeId} {i : TypeInfo} {z : Value} {kx ky : IntKind} {n : Int} (hk : ekB P t = some (k, e, i, z)) (hx : opd S.fr x = .int kx n) (hy : opd S.fr y = .int ky n)
    (hn : 0 ≤ n ∧ n ≤ 1000000000000) (hby : i.bytes ≤ 128) (o : Oper) (ho : o.op = .makeSlice t x y) (ext : Bool) :
    Does P (execOp a.eval o) w (Got P Γ N S.h ρ w ext (.msl S.h.length k.cells 0 n.toNat) (S.h ++ [some (makeD k n.toNat z)])) := by
  obtain ⟨hu, hi, hz, h0, hzs, hks, hzi, hzb⟩ := ekB_spec hk
  have hn1 := hn.1
  have hn2 := hn.2
  have rx := opd_rep R x
  have ry := opd_rep R y
  rw [hx] at rx
  rw [hy] at ry
  have hcs : (madeCells z.cells (n.toNat * i.size)).size = n.toNat * k.cells := by rw [size_madeCells, hks]
  refine Does.value (s := Instr.makeSlice t (a.eval x) (a.eval y)) (by unfold execOp; rw [ho]) (v := .slice (some ⟨w.heap.size, 0, none⟩) n.toNat n.toNat) (w' := w.alloc (.cells (madeCells z.cells (n.toNat * i.size)) e)) ?_ ?_
  · rw [show a.eval x = _ from rx, show a.eval y = _ from ry]
    refine run_make w t e i z hu hi hz kx ky n n hn1 (Int.le_refl _) ?_ (by omega)
    have : (i.bytes : Int) * n ≤ 128 * 1000000000000 := Int.mul_le_mul (by omega) hn2 hn1 (by omega)
    omega
  · refine got_new (d := .msl S.h.length k.cells 0 n.toNat) R.hr ⟨Ext.refl w, rfl⟩ (fun M ρ' O => ?_) (fun M ρ' hp => ⟨_, n.toNat, hp, by simp [newPlace], Nat.le_refl _, by unfold LB; omega, by simp only [newPlace]; rw [hcs]; omega⟩) ext
    have hr := row_made (w := w) (w1 := w) (t := e) rfl hcs
    rw [hcs]
    have hcell : ∀ j u, j < n.toNat * k.cells → (madeCells z.cells (n.toNat * i.size))[j]? = some u → z.cells[j % z.cells.size]? = some u := by
      intro j u hj hu'
      have hlt : j % z.cells.size < z.cells.size := Nat.mod_lt _ (by omega)
      simp only [madeCells] at hu'
      have hj' : j < n.toNat * i.size := by rw [← hks]; exact hj
      simp [hj'] at hu'
      rw [← hu']
      simp [hlt]
    cases k with
    | ints =>
      have hz1 := hzi rfl
      subst hz1
      show RowAt _ _ (List.replicate n.toNat (0 : Int)).length _
      rw [List.length_replicate]
      simp only [EK.cells, Nat.mul_one] at hr hcell ⊢
      refine RowAt.out hr rfl fun j u hj hu' => ?_
      have := hcell j u hj hu'
      have e1 : j % (Value.cells (.int .i64 0)).size = 0 := by simp [Value.cells, Nat.mod_one]
      rw [e1] at this
      simp [Value.cells] at this
      rw [← this]; simp [hj]
    | bools =>
      have hz1 := hzb rfl
      subst hz1
      show RowAt _ _ (List.replicate n.toNat false).length _
      rw [List.length_replicate]
      simp only [EK.cells, Nat.mul_one] at hr hcell ⊢
      refine RowAt.out hr rfl fun j u hj hu' => ?_
      have := hcell j u hj hu'
      have e1 : j % (Value.cells (.bool false)).size = 0 := by simp [Value.cells, Nat.mod_one]
      rw [e1] at this
      simp [Value.cells] at this
      rw [← this]; simp [hj]
    | gen m =>
      refine RowAt.out hr rfl fun j u hj hu' => ?_
      have h1 := hcell j u hj hu'
      have hm : m = z.cells.size := by rw [hzs]; exact hks
      have h2 : j % m < z.cells.toList.length := by rw [hm]; simpa using Nat.mod_lt _ (by omega)
      have h3 : (z.cells.toList.map ofV).getD (j % m) .any = ofV u := by
        rw [List.getD_eq_getElem?_getD, List.getElem?_map]
        have : z.cells.toList[j % m]? = some u := by rw [← h1, hm]; simp
        rw [this]; rfl
      show RepV M _ ((z.cells.toList.map ofV).getD (j % m) .any) [] u
      rw [h3]; exact ofV_rep u

end
end Go.Proofs.YtekkngkphejfcaaDoor
