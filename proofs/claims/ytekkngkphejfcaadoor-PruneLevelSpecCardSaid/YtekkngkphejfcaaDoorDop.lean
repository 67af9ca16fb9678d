/- What an operation that reads and reckons does to the plainer view; that it is so. -/
import Derived.Test.YtekkngkphejfcaaDoorDv
import Derived.Laws.Cells
import Derived.Laws.Cover3
import Derived.Laws.StructEq
import Derived.ChangeKeysEq
import Derived.RowKit
namespace Go.Proofs.YtekkngkphejfcaaDoor
open Go.RowKit

def ofV : Value → DV
  | .int k n => .int k n
  | .bool b => .bool b
  | .string s => .str s
  | .slice none 0 0 => .nils
  | v => if v.oneCell' then .cst v else .any
def opd (fr : List DV) : Operand → DV
  | .tmp t => fr.getD t .any
  | .const v => ofV v
  | .global _ => .any
  | .func f => .fn f 0 fun _ => .any
def isAggB (P : Program) (t : TypeId) : Bool := match P.underlying t with
  | some (.struct _) => true
  | some (.array _ _) => true
  | _ => false
def elemB (P : Program) (t : TypeId) (m : Nat) : Bool := match P.underlying t with
  | some (.slice e) => match P.info? e with
    | some i => i.size == m && m != 0
    | none => false
  | _ => false
def oneB (P : Program) (t : TypeId) : Bool := (P.underlying t).isSome && !isAggB P t
def aggB (P : Program) (t : TypeId) (m : Nat) : Bool := isAggB P t && (match P.info? t with | some i => i.size == m | none => false)
def fieldB (P : Program) (s : TypeId) (f : Nat) : Option (Nat × Nat) := match P.underlying s with
  | some (.struct fs) => match fs[f]? with
    | some fd => match P.info? fd.type with
      | some i => if i.size = 0 then none else some (fd.offset, i.size)
      | none => none
    | none => none
  | _ => none
def arrB (P : Program) (t : TypeId) : Option (Nat × Nat) := match P.underlying t with
  | some (.array n e) => match P.info? e with
    | some i => if n ≤ 1 then none else some (n, i.size)
    | none => none
  | _ => none
def intB (P : Program) (t : TypeId) : Option IntKind := match P.underlying t with
  | some (.int k) => some k
  | _ => none

/-- A comparison or a sum of integers. -/
def binI (op : BinOp) (k : IntKind) (a b : Int) : Option (DV × Prop) := match op with
  | .add => some (.int k (k.wrap (a + b)), True)
  | .sub => some (.int k (k.wrap (a - b)), True)
  | .mul => some (.int k (k.wrap (a * b)), True)
  | .and => some (.int k (bits .and k a b), True)
  | .or => some (.int k (bits .or k a b), True)
  | .xor => some (.int k (bits .xor k a b), True)
  | .andNot => some (.int k (bits .andNot k a b), True)
  | .eql => some (.bool (a == b), True)
  | .neq => some (.bool (a != b), True)
  | .lss => some (.bool (decide (a < b)), True)
  | .leq => some (.bool (decide (a ≤ b)), True)
  | .gtr => some (.bool (decide (a > b)), True)
  | .geq => some (.bool (decide (a ≥ b)), True)
  | _ => none
def boolB (P : Program) (t : TypeId) : Nat := match P.underlying t with
  | some .bool => 1
  | some (.slice _) => 2
  | _ => 0
def binD (bt : Nat) (op : BinOp) (x y : DV) : Option (DV × Prop) := match op, x, y with
  | .eql, .bool a, .bool b => if bt = 1 then some (.bool (a == b), True) else none
  | .neq, .bool a, .bool b => if bt = 1 then some (.bool (!(a == b)), True) else none
  | .eql, .ints l, .nils => if bt = 2 then some (.bool false, 0 < l.length) else none
  | .eql, .bools l, .nils => if bt = 2 then some (.bool false, 0 < l.length) else none
  | .neq, .ints l, .nils => if bt = 2 then some (.bool true, 0 < l.length) else none
  | .shl, .int k a, .int _ b => some (.int k (k.wrap (a * 2 ^ b.toNat)), 0 ≤ b ∧ b ≤ k.bits)
  | .shr, .int k a, .int _ b => some (.int k (a / 2 ^ b.toNat), 0 ≤ b ∧ b ≤ k.bits)
  | op, .int k a, .int k' b => if k = k' then binI op k a b else none
  | _, _, _ => none

def loadD (P : Program) (S : St) (t : TypeId) : DV → Option (DV × Prop)
  | .fp m f => if oneB P t then (if m = 0 then none else some (f 0, True)) else if aggB P t m then some (.agg m f, True) else none
  | .ref k j => match S.h[k]? with
    | some (some (.cells l)) => if oneB P t then (if j < l.length then some (l.getD j .any, True) else none)
      else match P.info? t with
        | some i => if isAggB P t && decide (j + i.size ≤ l.length) then some (.agg i.size (tab i.size fun c => l.getD (j + c) .any), True) else none
        | none => none
    | _ => none
  | .mp k m i j => match S.h[k]? with
    | some (some (.ints l)) => if oneB P t && (m == 1) && (j == 0) then some (.int .i64 (l.getD i 0), i < l.length) else none
    | some (some (.bools l)) => if oneB P t && (m == 1) && (j == 0) then some (.bool (l.getD i false), i < l.length) else none
    | some (some (.arr m' n f)) => if oneB P t && (m == m') && decide (j < m) then some (f i j, i < n)
      else if aggB P t m && (m == m') && (j == 0) then some (.agg m (f i), i < n) else none
    | some (some (.mo (.sets _ ls _))) => if oneB P t && (m == 1) && (j == 0) then some (.mri k i, i < ls.length) else none
    | _ => none
  | _ => none

def idxD (P : Program) (t : TypeId) (x : DV) (n : Int) : Option (DV × Prop) := match x with
  | .ints l => if elemB P t 1 then some (.fp 1 (fun _ => .int .i64 (l.getD n.toNat 0)), 0 ≤ n ∧ n < l.length) else none
  | .bools l => if elemB P t 1 then some (.fp 1 (fun _ => .bool (l.getD n.toNat false)), 0 ≤ n ∧ n < l.length) else none
  | .sl m c f => if elemB P t m then some (.fp m (f n.toNat), 0 ≤ n ∧ n < c) else none
  | .msl k m off c => if elemB P t m then some (.mp k m (off + n.toNat) 0, 0 ≤ n ∧ n < c) else none
  | .ref k j => match arrB P t with
    | some (len, sz) => some (.ref k (j + n.toNat * sz), 0 ≤ n ∧ n < len)
    | none => none
  | .mp k m i 0 => match arrB P t with
    | some (len, sz) => if sz = m then some (.mp k m (i + n.toNat) 0, 0 ≤ n ∧ n < len) else none
    | none => none
  | _ => none

def lenD (P : Program) (t : TypeId) (d : DV) : Option (DV × Prop) := match P.underlying t, d with
  | some (.slice _), .nils => some (.int .i64 0, True)
  | some (.slice _), .ints l => some (.int .i64 l.length, True)
  | some (.slice _), .bools l => some (.int .i64 l.length, True)
  | some (.slice _), .sl _ n _ => some (.int .i64 n, True)
  | some (.slice _), .msl _ _ _ n => some (.int .i64 n, True)
  | some .string, .str s => some (.int .i64 s.size, True)
  | _, _ => none
def maxD (x y : DV) : Option (DV × Prop) := match x, y with
  | .int k a, .int _ b => some (.int k (if b > a then b else a), True)
  | _, _ => none
def minD (x y : DV) : Option (DV × Prop) := match x, y with
  | .int k a, .int _ b => some (.int k (if b < a then b else a), True)
  | _, _ => none
def builtD (P : Program) (S : St) (b : Builtin) (args : List Operand) (tys : List TypeId) : Option (DV × Prop) := match b with
  | .len => match args with
    | [x] => match tys with
      | [t] => lenD P t (opd S.fr x)
      | _ => none
    | _ => none
  | .max => match args with
    | [x, y] => maxD (opd S.fr x) (opd S.fr y)
    | _ => none
  | .min => match args with
    | [x, y] => minD (opd S.fr x) (opd S.fr y)
    | _ => none
  | _ => none

def pop (P : Program) (S : St) : Op → Option (DV × Prop)
  | .move x => some (opd S.fr x, True)
  | .assign x => some (opd S.fr x, True)
  | .pick c a b => match opd S.fr c with
    | .bool true => some (opd S.fr a, True)
    | .bool false => some (opd S.fr b, True)
    | _ => none
  | .load t x => loadD P S t (opd S.fr x)
  | .binOp op t x y _ => binD (boolB P t) op (opd S.fr x) (opd S.fr y)
  | .unOp op _ x => match op, opd S.fr x with
    | .not, .bool b => some (.bool !b, True)
    | .neg, .int k n => some (.int k (k.wrap (0 - n)), True)
    | .xor, .int k n => some (.int k (bits .xor k (if k.signed then -1 else k.max) n), True)
    | _, _ => none
  | .convert s d x => match P.underlying s, intB P d, opd S.fr x with
    | some _, some k, .int _ n => some (.int k (k.wrap n), True)
    | _, _, _ => none
  | .nilCheck x => match opd S.fr x with
    | .fp m f => some (.fp m f, True)
    | .ref k j => some (.ref k j, True)
    | .mp k m i j => some (.mp k m i j, True)
    | .fn g m c => some (.fn g m c, True)
    | _ => none
  | .fieldAddr s x f => match fieldB P s f with
    | some (off, sz) => match opd S.fr x with
      | .fp m g => if off + sz ≤ m then some (.fp sz (tab sz fun j => g (off + j)), True) else none
      | .ref k j => some (.ref k (j + off), True)
      | .mp k m i j => some (.mp k m i (j + off), True)
      | _ => none
    | none => none
  | .indexAddr t x i => match opd S.fr i with
    | .int _ n => idxD P t (opd S.fr x) n
    | _ => none
  | .extract x i => match opd S.fr x with
    | .tup m f => if i < m then some (f i, True) else none
    | _ => none
  | .makeFunc (.func g) first c => if first.size = 0 then some (.fn g c.size (tab c.size fun j => opd S.fr (c.getD j (.const undef))), True) else none
  | .call c => match c.callee with
    | .builtin b => builtD P S b c.args.toList c.argTypes.toList
    | _ => none
  | _ => none

section
variable {P : Program} {Γ : Glo} {N : Nat → Prop} {S : St} {ρ : List Place} {a : Act} {w : World}

theorem ofV_rep {M : Nat → Prop} (v : Value) : RepV M w (ofV v) ρ v := by
  unfold ofV
  split
  · rfl
  · rfl
  · rfl
  · rfl
  · split
    · exact ⟨rfl, by assumption⟩
    · trivial
theorem opd_rep (R : Rel P Γ N S ρ a w) (x : Operand) : RepV (MS N S.h ρ) w (opd S.fr x) ρ (a.eval x) := by
  cases x with
  | tmp t => exact R.fr.at t
  | const v => exact ofV_rep v
  | global g => trivial
  | func f => exact ⟨#[], rfl, rfl, fun j hj => absurd hj (Nat.not_lt_zero j)⟩

theorem run_isAgg' {t : TypeId} {d : TypeDesc} (h : P.underlying t = some d) : (isAgg t).run P w = .ok (isAggB P t) w := by
  unfold isAgg isAggB
  rw [Sem.run_bind, run_underlying h]
  simp only [Result.andThen, h]
  cases d <;> rfl
theorem run_sizeOf' {t : TypeId} {i : TypeInfo} (h : P.info? t = some i) : (sizeOf t).run P w = .ok i.size w := by
  rw [run_sizeOf w h]; unfold Program.cellsOf; rw [h]; rfl
theorem under_of_info {t : TypeId} {d : TypeDesc} (h : P.underlying t = some d) : ∃ i, P.info? t = some i := by
  unfold Program.underlying at h
  split at h
  · exact ⟨_, by assumption⟩
  · exact ⟨_, by assumption⟩
  · cases h
theorem run_loadVar_one' {t : TypeId} {b : Addr} {u : Value} (h : oneB P t = true) (hc : w.cell? b = some u) : (loadVar t b).run P w = .ok u w := by
  unfold oneB at h
  simp only [Bool.and_eq_true, Option.isSome_iff_exists, Bool.not_eq_true'] at h
  obtain ⟨⟨d, hd⟩, hn⟩ := h
  unfold loadVar
  rw [Sem.run_bind, run_isAgg' hd]
  simp only [Result.andThen, hn, Bool.false_eq_true, if_false]
  simp [load, Sem.run, hc]
theorem isAggB_some {t : TypeId} (h : isAggB P t = true) : ∃ d, P.underlying t = some d := by
  unfold isAggB at h
  split at h
  · exact ⟨_, by assumption⟩
  · exact ⟨_, by assumption⟩
  · cases h
theorem run_loadVar_agg' {t : TypeId} {b o : Nat} {i : TypeInfo} (h : isAggB P t = true) (hi : P.info? t = some i) (g : Nat → Value) (hc : ∀ j, j < i.size → w.cell? ⟨b, o + j, none⟩ = some (g j)) :
    (loadVar t ⟨b, o, none⟩).run P w = .ok (.agg ((List.range i.size).map g).toArray) w := by
  obtain ⟨d, hd⟩ := isAggB_some h
  unfold loadVar
  rw [Sem.run_bind, run_isAgg' hd]
  simp only [Result.andThen, h, if_true]
  rw [Sem.run_bind, run_sizeOf' hi]
  simp only [Result.andThen]
  rw [Sem.run_bind, run_loadCells w ⟨b, o, none⟩ i.size g (fun j hj => by
    have := hc j hj
    unfold Addr.add
    by_cases e : j = 0
    · subst e; simpa using this
    · simpa [e] using this)]
  simp [Result.andThen]

/-- Cells of blocks that are not foreign lie as they lay. -/
def Keep (N : Nat → Prop) (w W : World) : Prop := ∀ b o u, ¬ N b → w.cell? ⟨b, o, none⟩ = some u → W.cell? ⟨b, o, none⟩ = some u
theorem Keep.ofExt {N : Nat → Prop} {w W : World} (h : Ext w W) : Keep N w W := fun _ _ _ _ hc => h.cell hc
/-- What an operation yields, whatever is made and done to foreign blocks meanwhile. -/
def Yl (P : Program) (N : Nat → Prop) (w : World) (M : Nat → Prop) (ρ : List Place) (s : Sem Value) (d : DV) : Prop := ∃ v, (∀ W, Keep N w W → s.run P W = .ok v W) ∧ RepV M w d ρ v
theorem row_off {k : Nat} {o : DO} {p : Place} {n : Nat} {Rw : Nat → Value → Prop} (R : Rel P Γ N S ρ a w) (hk : S.h[k]? = some (some o)) (hp : ρ[k]? = some p) (hr : RowAt w p n Rw) : ¬ N p.blk := (R.hr.cel k o p p.blk hk hp (by rw [hr.1])).2.1

theorem fp_cell {M : Nat → Prop} {m : Nat} {f : Nat → DV} {v : Value} (h : RepV M w (.fp m f) ρ v) : ∃ b o, v = .pointer (some ⟨b, o, none⟩) ∧ ∀ j, j < m → ¬ M b ∧ ∃ u, w.cell? ⟨b, o + j, none⟩ = some u ∧ RepV M w (f j) [] u := h
theorem rep_nil {M : Nat → Prop} {d : DV} {v : Value} (h : RepV M w d [] v) : RepV M w d ρ v := h.out d ⟨fun _ _ _ _ => rfl, fun _ h => .inl h, fun k p hk => by simp at hk⟩

theorem run_loadAt {t : TypeId} {b : Addr} {W : World} : (Instr.loadAt t (.pointer (some b))).run P W = (loadVar t b).run P W := rfl

theorem load_one {M : Nat → Prop} {t : TypeId} {b o : Nat} {u : Value} {d : DV} (hN : ¬ N b) (h1 : oneB P t = true) (hc : w.cell? ⟨b, o, none⟩ = some u) (hr : RepV M w d ρ u) : Yl P N w M ρ (Instr.loadAt t (.pointer (some ⟨b, o, none⟩))) d :=
  ⟨u, fun W hE => by rw [run_loadAt]; exact run_loadVar_one' h1 (hE _ _ _ hN hc), hr⟩
theorem load_agg {M : Nat → Prop} {t : TypeId} {i : TypeInfo} {b o : Nat} {f : Nat → DV} (hN : 0 < i.size → ¬ N b) (h1 : isAggB P t = true) (hi : P.info? t = some i) (h : ∀ j, j < i.size → ∃ u, w.cell? ⟨b, o + j, none⟩ = some u ∧ RepV M w (f j) ρ u) :
    Yl P N w M ρ (Instr.loadAt t (.pointer (some ⟨b, o, none⟩))) (.agg i.size f) := by
  obtain ⟨g, hg⟩ : ∃ g : Nat → Value, ∀ j, j < i.size → w.cell? ⟨b, o + j, none⟩ = some (g j) ∧ RepV M w (f j) ρ (g j) := by
    refine ⟨fun j => (w.cell? ⟨b, o + j, none⟩).getD undef, fun j hj => ?_⟩
    obtain ⟨u, h1, h2⟩ := h j hj
    simp [h1, h2]
  refine ⟨_, fun W hE => by rw [run_loadAt]; exact run_loadVar_agg' h1 hi g fun j hj => hE _ _ _ (hN (by omega)) (hg j hj).1, _, rfl, by simp, fun j hj => ?_⟩
  exact ⟨g j, by simp [hj], (hg j hj).2⟩
theorem aggB_spec {t : TypeId} {m : Nat} (h : aggB P t m = true) : isAggB P t = true ∧ ∃ i, P.info? t = some i ∧ i.size = m := by
  unfold aggB at h
  simp only [Bool.and_eq_true] at h
  refine ⟨h.1, ?_⟩
  have h2 := h.2
  split at h2
  · exact ⟨_, by assumption, by simpa using h2⟩
  · cases h2

theorem loadD_sound (R : Rel P Γ N S ρ a w) {t : TypeId} {x d : DV} {vc : Prop} {v : Value} (hx : RepV (MS N S.h ρ) w x ρ v) (h : loadD P S t x = some (d, vc)) (hv : vc) :
    Yl P N w (MS N S.h ρ) ρ (Instr.loadAt t v) d := by
  unfold loadD at h
  split at h
  · rename_i m f
    obtain ⟨b, o, rfl, hc⟩ := fp_cell hx
    split at h
    · rename_i h1
      split at h
      · cases h
      · cases h
        obtain ⟨hM, u, g1, g2⟩ := hc 0 (by omega)
        exact load_one (fun h => hM (.inl h)) h1 g1 (rep_nil g2)
    · split at h
      · rename_i h2
        cases h
        obtain ⟨h3, i, hi, rfl⟩ := aggB_spec h2
        exact load_agg (fun hp h => (hc 0 hp).1 (.inl h)) h3 hi fun j hj => let ⟨_, u, g1, g2⟩ := hc j hj; ⟨u, g1, rep_nil g2⟩
      · cases h
  · rename_i k j
    obtain ⟨p, hp, rfl⟩ := hx
    split at h
    · rename_i l hk
      obtain ⟨p', hp', hr⟩ := R.hr.obj k _ hk
      have e : p' = p := Option.some.inj (hp'.symm.trans hp)
      subst e
      split at h
      · rename_i h1
        split at h
        · rename_i hj
          cases h
          obtain ⟨u, g1, g2⟩ := RowAt.cell hr hj
          exact load_one (row_off R hk hp hr) h1 g1 g2
        · cases h
      · split at h
        · rename_i i hi
          split at h
          · rename_i h2
            cases h
            simp only [Bool.and_eq_true, decide_eq_true_eq] at h2
            refine load_agg (fun _ => row_off R hk hp hr) h2.1 hi fun c hc => ?_
            obtain ⟨u, g1, g2⟩ := RowAt.cell hr (j := j + c) (by omega)
            exact ⟨u, by rw [Nat.add_assoc]; exact g1, tab_rep hc g2⟩
          · cases h
        · cases h
    · cases h
  · rename_i k m i j
    obtain ⟨p, hp, rfl⟩ := hx
    split at h
    · rename_i l hk
      obtain ⟨p', hp', hr⟩ := R.hr.obj k _ hk
      have e : p' = p := Option.some.inj (hp'.symm.trans hp)
      subst e
      split at h
      · rename_i h1
        cases h
        simp only [Bool.and_eq_true, beq_iff_eq] at h1
        obtain ⟨⟨h1, rfl⟩, rfl⟩ := h1
        obtain ⟨u, g1, g2⟩ := RowAt.cell hr hv
        exact load_one (row_off R hk hp hr) h1 (by simpa using g1) g2
      · cases h
    · rename_i l hk
      obtain ⟨p', hp', hr⟩ := R.hr.obj k _ hk
      have e : p' = p := Option.some.inj (hp'.symm.trans hp)
      subst e
      split at h
      · rename_i h1
        cases h
        simp only [Bool.and_eq_true, beq_iff_eq] at h1
        obtain ⟨⟨h1, rfl⟩, rfl⟩ := h1
        obtain ⟨u, g1, g2⟩ := RowAt.cell hr hv
        exact load_one (row_off R hk hp hr) h1 (by simpa using g1) g2
      · cases h
    · rename_i m' n f hk
      obtain ⟨p', hp', hr⟩ := R.hr.obj k _ hk
      have e : p' = p := Option.some.inj (hp'.symm.trans hp)
      subst e
      have inb : ∀ {i j : Nat}, i < n → j < m' → i * m' + j < n * m' := fun {i j} hi hj => by
        have : (i + 1) * m' ≤ n * m' := Nat.mul_le_mul_right _ hi
        rw [Nat.succ_mul] at this; omega
      have dv : ∀ {i j : Nat}, j < m' → (i * m' + j) / m' = i ∧ (i * m' + j) % m' = j := fun {i j} hj => by
        have hm : 0 < m' := by omega
        constructor
        · rw [Nat.mul_comm, Nat.mul_add_div hm, Nat.div_eq_of_lt hj, Nat.add_zero]
        · rw [Nat.mul_comm, Nat.mul_add_mod, Nat.mod_eq_of_lt hj]
      split at h
      · rename_i h1
        cases h
        simp only [Bool.and_eq_true, beq_iff_eq, decide_eq_true_eq] at h1
        obtain ⟨⟨h1, rfl⟩, hj⟩ := h1
        obtain ⟨u, g1, g2⟩ := RowAt.cell hr (inb hv hj)
        rw [(dv hj).1, (dv hj).2] at g2
        exact load_one (row_off R hk hp hr) h1 g1 (rep_nil g2)
      · split at h
        · rename_i h2
          cases h
          simp only [Bool.and_eq_true, beq_iff_eq] at h2
          obtain ⟨⟨h2, rfl⟩, rfl⟩ := h2
          obtain ⟨h3, ti, hi, rfl⟩ := aggB_spec h2
          refine load_agg (fun _ => row_off R hk hp hr) h3 hi fun c hc => ?_
          obtain ⟨u, g1, g2⟩ := RowAt.cell hr (inb hv hc)
          rw [(dv hc).1, (dv hc).2] at g2
          exact ⟨u, by simpa [Nat.add_assoc] using g1, rep_nil g2⟩
        · cases h
    · rename_i n ls lk hk
      obtain ⟨p', hp', vs, hS⟩ := R.hr.obj k _ hk
      have e : p' = p := Option.some.inj (hp'.symm.trans hp)
      subst e
      split at h
      · rename_i h1
        cases h
        simp only [Bool.and_eq_true, beq_iff_eq] at h1
        obtain ⟨⟨h1, rfl⟩, rfl⟩ := h1
        obtain ⟨cs, tt, q1, q2, q3, q4⟩ := hS.row
        have hi : i < vs.size := by rw [hS.size]; exact hv
        have q5 := q4 i hv
        rw [Array.getElem?_eq_getElem hi] at q5
        refine load_one (u := vs[i]) (R.hr.cel k _ p' p'.blk hk hp hS.blk).2.1 h1 ?_ ⟨p', vs, hp, hS.val, Array.getElem?_eq_getElem hi⟩
        unfold World.cell?
        simp [q1, q5]
      · cases h
    · cases h
  · cases h

theorem Yl.pure {M : Nat → Prop} {s : Sem Value} {d : DV} {v : Value} (h : ∀ W, s.run P W = .ok v W) (hr : RepV M w d ρ v) : Yl P N w M ρ s d := ⟨v, fun W _ => h W, hr⟩
theorem elemB_spec {t : TypeId} {m : Nat} (h : elemB P t m = true) : P.underlying t = some (.slice (P.elem t)) ∧ (∃ i, P.info? (P.elem t) = some i ∧ i.size = m) ∧ m ≠ 0 := by
  unfold elemB at h
  split at h
  · rename_i e he
    have : P.elem t = e := by unfold Program.elem; rw [he]
    rw [this]
    refine ⟨he, ?_⟩
    split at h
    · simp only [Bool.and_eq_true, beq_iff_eq, bne_iff_ne] at h
      exact ⟨⟨_, by assumption, h.1⟩, h.2⟩
    · cases h
  · cases h
theorem arrB_spec {t : TypeId} {n m : Nat} (h : arrB P t = some (n, m)) : P.underlying t = some (.array (P.arrayLen t) (P.elem t)) ∧ P.arrayLen t = n ∧ ∃ i, P.info? (P.elem t) = some i ∧ i.size = m := by
  unfold arrB at h
  split at h
  · rename_i n' e he
    have h1 : P.elem t = e := by unfold Program.elem; rw [he]
    have h2 : P.arrayLen t = n' := by unfold Program.arrayLen; rw [he]
    rw [h1, h2]
    split at h
    · split at h
      · cases h
      · cases h
        exact ⟨he, rfl, _, by assumption, rfl⟩
    · cases h
  · cases h
theorem add_none (b o n : Nat) : Addr.add ⟨b, o, none⟩ n = ⟨b, o + n, none⟩ := by
  unfold Addr.add
  by_cases h : n = 0
  · subst h; rfl
  · simp [h]
theorem run_idx_slice {t : TypeId} {m b o len cap : Nat} {k : IntKind} {n : Int} (h : elemB P t m = true) (h1 : 0 ≤ n) (h2 : n < len) (W : World) :
    (Instr.indexAt t (.slice (some ⟨b, o, none⟩) len cap) (.int k n)).run P W = .ok (.pointer (some ⟨b, o + n.toNat * m, none⟩)) W := by
  obtain ⟨hu, ⟨i, hi, rfl⟩, _⟩ := elemB_spec h
  rw [run_indexAt_slice W t _ len cap k n hu, if_pos ⟨h1, h2⟩, run_sizeOf' hi]
  simp only [Result.andThen, add_none]

theorem idxD_sound (R : Rel P Γ N S ρ a w) {t : TypeId} {x d : DV} {vc : Prop} {v : Value} {k : IntKind} {n : Int} (hx : RepV (MS N S.h ρ) w x ρ v) (h : idxD P t x n = some (d, vc)) (hv : vc) :
    Yl P N w (MS N S.h ρ) ρ (Instr.indexAt t v (.int k n)) d := by
  unfold idxD at h
  split at h
  · rename_i l
    obtain ⟨ad, cap, rfl, h1, h2, h3⟩ := hx
    split at h
    · rename_i he
      cases h
      obtain ⟨b, o, rfl, hM, hc⟩ := h3 n.toNat (by omega)
      refine Yl.pure (fun W => run_idx_slice he hv.1 hv.2 W) ⟨b, o + n.toNat * 1, rfl, fun j hj => ⟨hM, _, ?_, rfl⟩⟩
      have : j = 0 := by omega
      subst this; simpa using hc
    · cases h
  · rename_i l
    obtain ⟨ad, cap, rfl, h1, h2, h3⟩ := hx
    split at h
    · rename_i he
      cases h
      obtain ⟨b, o, rfl, hM, hc⟩ := h3 n.toNat (by omega)
      refine Yl.pure (fun W => run_idx_slice he hv.1 hv.2 W) ⟨b, o + n.toNat * 1, rfl, fun j hj => ⟨hM, _, ?_, rfl⟩⟩
      have : j = 0 := by omega
      subst this; simpa using hc
    · cases h
  · rename_i m c f
    obtain ⟨ad, cap, rfl, h1, h2, h3⟩ := hx
    split at h
    · rename_i he
      cases h
      have hm := (elemB_spec he).2
      obtain ⟨b, o, u, rfl, hM, hc, hr⟩ := h3 n.toNat 0 (by omega) (by omega)
      refine Yl.pure (fun W => run_idx_slice he hv.1 hv.2 W) ⟨b, o + n.toNat * m, rfl, fun j hj => ?_⟩
      obtain ⟨b', o', u', e, hM', hc', hr'⟩ := h3 n.toNat j (by omega) hj
      cases e
      exact ⟨hM', u', by rw [Nat.add_assoc]; exact hc', hr'⟩
    · cases h
  · rename_i k' m off c
    obtain ⟨p, cap, hp, rfl, h1, h2, h3⟩ := hx
    split at h
    · rename_i he
      cases h
      exact Yl.pure (fun W => run_idx_slice he hv.1 hv.2 W) ⟨p, hp, by rw [Nat.add_assoc, ← Nat.add_mul]; rfl⟩
    · cases h
  · rename_i k' j
    obtain ⟨p, hp, rfl⟩ := hx
    split at h
    · rename_i len sz ha
      cases h
      obtain ⟨hu, hl, i, hi, rfl⟩ := arrB_spec ha
      refine Yl.pure (fun W => ?_) ⟨p, hp, rfl⟩
      rw [run_indexAt_array W t _ k n hu, if_pos ⟨hv.1, by rw [hl]; exact hv.2⟩, run_sizeOf' hi]
      simp only [Result.andThen, add_none, Nat.add_assoc]
    · cases h
  · rename_i k' m i0
    obtain ⟨p, hp, rfl⟩ := hx
    split at h
    · rename_i len sz ha
      split at h
      · rename_i hsz
        subst hsz
        cases h
        obtain ⟨hu, hl, i, hi, rfl⟩ := arrB_spec ha
        refine Yl.pure (fun W => ?_) ⟨p, hp, rfl⟩
        rw [run_indexAt_array W t _ k n hu, if_pos ⟨hv.1, by rw [hl]; exact hv.2⟩, run_sizeOf' hi]
        simp only [Result.andThen, add_none, Nat.add_assoc, Nat.add_mul, Nat.zero_add, Nat.add_zero]
      · cases h
    · cases h
  · cases h

theorem run_binI {op : BinOp} {k : IntKind} {x y : Int} {d : DV} {vc : Prop} (t : TypeId) (h : binI op k x y = some (d, vc)) (M : Nat → Prop) : Yl P N w M ρ (binOp op t (.int k x) (.int k y)) d := by
  cases op <;> simp only [binI, Option.some.injEq, Prod.mk.injEq, reduceCtorEq] at h <;> obtain ⟨rfl, -⟩ := h
  · exact Yl.pure (fun W => by rw [binOp_add]; rfl) rfl
  · exact Yl.pure (fun W => by rw [binOp_sub]; rfl) rfl
  · exact Yl.pure (fun W => by rw [binOp_mul]; rfl) rfl
  · exact Yl.pure (fun W => by rw [binOp_and]; rfl) rfl
  · exact Yl.pure (fun W => by rw [binOp_or]; rfl) rfl
  · exact Yl.pure (fun W => by rw [binOp_xor]; rfl) rfl
  · exact Yl.pure (fun W => by rw [binOp_andNot]; rfl) rfl
  · exact Yl.pure (fun W => by rw [binOp_eql]; rfl) rfl
  · exact Yl.pure (fun W => by rw [binOp_neq]; rfl) rfl
  · exact Yl.pure (fun W => by rw [binOp_lss]; rfl) rfl
  · exact Yl.pure (fun W => by rw [binOp_leq]; rfl) rfl
  · exact Yl.pure (fun W => by rw [binOp_gtr]; rfl) rfl
  · exact Yl.pure (fun W => by rw [binOp_geq]; rfl) rfl

theorem eqGuard_int {op : BinOp} {t : TypeId} {x y : Operand} {k : IntKind} {n : Int} {v : Value} : eqGuard op t x y (.int k n) v = pure () := by
  cases op <;> rfl

theorem binD_sound {M : Nat → Prop} {op : BinOp} {t : TypeId} {x y : DV} {vx vy : Value} {d : DV} {vc : Prop} (ox oy : Operand) (hx : RepV M w x ρ vx) (hy : RepV M w y ρ vy) (h : binD (boolB P t) op x y = some (d, vc)) (hv : vc) :
    Yl P N w M ρ (do eqGuard op t ox oy vx vy; binOp op t vx vy) d := by
  have key : ∀ {k k' : IntKind} {n n' : Int}, vx = .int k n → vy = .int k' n' → Yl P N w M ρ (binOp op t (.int k n) (.int k' n')) d → Yl P N w M ρ (do eqGuard op t ox oy vx vy; binOp op t vx vy) d := by
    intro k k' n n' e1 e2 hY
    subst e1; subst e2
    rw [eqGuard_int]
    exact hY
  have hb : boolB P t = 1 → P.underlying t = some .bool := fun h => by
    unfold boolB at h
    split at h
    · assumption
    · cases h
    · cases h
  have hsl : boolB P t = 2 → ∃ e, P.underlying t = some (.slice e) := fun h => by
    unfold boolB at h
    split at h
    · cases h
    · exact ⟨_, by assumption⟩
    · cases h
  have eqn : ∀ {e : TypeId} {a : Addr} {l c : Nat} (W : World), P.underlying t = some (.slice e) → (do eqGuard .eql t ox oy (.slice (some a) l c) (.slice none 0 0); binOp .eql t (.slice (some a) l c) (.slice none 0 0) : Sem Value).run P W = .ok (.bool false) W := by
    intro e a l c W hu
    have h1 : eqGuard .eql t ox oy (.slice (some a) l c) (.slice none 0 0) = pure () := rfl
    rw [h1]
    show (binOp .eql t (.slice (some a) l c) (.slice none 0 0)).run P W = _
    simp only [binOp]
    simp [run_equal_slice_nil W t e (some a) l c hu]
  have nen : ∀ {e : TypeId} {a : Addr} {l c : Nat} (W : World), P.underlying t = some (.slice e) → (do eqGuard .neq t ox oy (.slice (some a) l c) (.slice none 0 0); binOp .neq t (.slice (some a) l c) (.slice none 0 0) : Sem Value).run P W = .ok (.bool true) W := by
    intro e a l c W hu
    have h1 : eqGuard .neq t ox oy (.slice (some a) l c) (.slice none 0 0) = pure () := rfl
    rw [h1]
    show (binOp .neq t (.slice (some a) l c) (.slice none 0 0)).run P W = _
    simp only [binOp]
    simp [run_equal_slice_nil W t e (some a) l c hu]
  unfold binD at h
  split at h
  · split at h
    · rename_i e
      cases h
      have e1 : vx = .bool _ := hx
      have e2 : vy = .bool _ := hy
      subst e1; subst e2
      exact Yl.pure (fun W => run_eql_bool W t _ _ (hb e)) rfl
    · cases h
  · split at h
    · rename_i e
      cases h
      have e1 : vx = .bool _ := hx
      have e2 : vy = .bool _ := hy
      subst e1; subst e2
      exact Yl.pure (fun W => run_neq_bool W t _ _ (hb e)) rfl
    · cases h
  · split at h
    · rename_i e
      cases h
      obtain ⟨e0, he⟩ := hsl e
      obtain ⟨ad, cap, rfl, h1, h2, h3⟩ := hx
      obtain ⟨b, o, rfl, _⟩ := h3 0 hv
      have e2 : vy = .slice none 0 0 := hy
      subst e2
      exact Yl.pure (fun W => eqn W he) rfl
    · cases h
  · split at h
    · rename_i e
      cases h
      obtain ⟨e0, he⟩ := hsl e
      obtain ⟨ad, cap, rfl, h1, h2, h3⟩ := hx
      obtain ⟨b, o, rfl, _⟩ := h3 0 hv
      have e2 : vy = .slice none 0 0 := hy
      subst e2
      exact Yl.pure (fun W => eqn W he) rfl
    · cases h
  · split at h
    · rename_i e
      cases h
      obtain ⟨e0, he⟩ := hsl e
      obtain ⟨ad, cap, rfl, h1, h2, h3⟩ := hx
      obtain ⟨b, o, rfl, _⟩ := h3 0 hv
      have e2 : vy = .slice none 0 0 := hy
      subst e2
      exact Yl.pure (fun W => nen W he) rfl
    · cases h
  · cases h
    refine key hx hy ?_
    exact Yl.pure (fun W => by rw [binOp_shl, shift_shl _ _ _ _ hv.1 hv.2]; rfl) rfl
  · cases h
    refine key hx hy ?_
    exact Yl.pure (fun W => by rw [binOp_shr, shift_shr _ _ _ _ hv.1 hv.2]; rfl) rfl
  · split at h
    · rename_i e
      subst e
      exact key hx hy (run_binI t h M)
    · cases h
  · cases h

theorem execOp_value {ρ' : Operand → Value} {o : Oper} {s : Sem Value} {M : Nat → Prop} {d : DV} (he : execOp ρ' o = (do pure (.value (← s)))) (h : Yl P N w M ρ s d) : ∃ v, (∀ W, Keep N w W → (execOp ρ' o).run P W = .ok (.value v) W) ∧ RepV M w d ρ v := by
  obtain ⟨v, h1, h2⟩ := h
  refine ⟨v, fun W hE => ?_, h2⟩
  rw [he, Sem.run_bind, h1 W hE]
  rfl

theorem fieldB_spec {s : TypeId} {f off sz : Nat} (h : fieldB P s f = some (off, sz)) : ∃ fs fd i, P.underlying s = some (.struct fs) ∧ fs[f]? = some fd ∧ fd.offset = off ∧ P.info? fd.type = some i ∧ i.size = sz ∧ sz ≠ 0 := by
  unfold fieldB at h
  split at h
  · rename_i fs hs
    split at h
    · rename_i fd hf
      split at h
      · rename_i i hi
        split at h
        · cases h
        · cases h
          exact ⟨fs, fd, i, hs, hf, rfl, hi, rfl, by assumption⟩
      · cases h
    · cases h
  · cases h
theorem run_fieldAt' {s : TypeId} {f off sz b o : Nat} (h : fieldB P s f = some (off, sz)) (W : World) : (Instr.fieldAt s (.pointer (some ⟨b, o, none⟩)) f).run P W = .ok (.pointer (some ⟨b, o + off, none⟩)) W := by
  obtain ⟨fs, fd, i, h1, h2, rfl, h4, rfl, h6⟩ := fieldB_spec h
  unfold Instr.fieldAt
  rw [Sem.run_bind, run_underlying h1]
  simp only [Result.andThen, h2, Instr.sureAddr]
  simp only [Sem.run_bind, Sem.run_pure, Result.andThen, fieldPlace, run_sizeOf' h4, if_neg h6, add_none]

theorem intB_spec {t : TypeId} {k : IntKind} (h : intB P t = some k) : P.underlying t = some (.int k) := by
  unfold intB at h
  split at h
  · cases h; assumption
  · cases h

theorem run_len' {t ty : TypeId} {e : TypeId} {ad : Option Addr} {n c : Nat} (h : P.underlying t = some (.slice e)) (W : World) : (Builtin.len_ #[t] ty #[.slice ad n c]).run P W = .ok (.int .i64 n) W := by
  simp [Builtin.len_, run_underlying h, goInt]
theorem run_len_str' {t ty : TypeId} {s : ByteArray} (h : P.underlying t = some .string) (W : World) : (Builtin.len_ #[t] ty #[.string s]).run P W = .ok (.int .i64 s.size) W := by
  simp [Builtin.len_, run_underlying h, goInt]

theorem exec_builtin {M : Nat → Prop} {ρ' : Operand → Value} {o : Oper} {c : Call} {b : Builtin} {d : DV} {s : Sem Value} (ho : o.op = .call c) (hc : c.callee = .builtin b)
    (hb : builtin b c.argTypes o.type (c.args.map fun | .const _ => true | _ => false) (c.args.map ρ') = (do pure (.value (← s)))) (h : Yl P N w M ρ s d) :
    ∃ v, (∀ W, Keep N w W → (execOp ρ' o).run P W = .ok (.value v) W) ∧ RepV M w d ρ v := by
  refine execOp_value (s := s) ?_ h
  rw [← hb]
  unfold execOp
  rw [ho]
  show (resolve ρ' c o.type >>= fun d => invoke d.target d.args) = _
  unfold resolve
  rw [hc]
  rfl

theorem lenD_sound {M : Nat → Prop} {t ty : TypeId} {x d : DV} {vc : Prop} {v : Value} (hx : RepV M w x ρ v) (h : lenD P t x = some (d, vc)) : Yl P N w M ρ (Builtin.len_ #[t] ty #[v]) d := by
  unfold lenD at h
  split at h
  · rename_i e' hu
    cases h; rw [show v = _ from hx]
    exact Yl.pure (fun W => run_len' hu W) rfl
  · rename_i e' l hu
    cases h
    obtain ⟨ad, cap, rfl, _⟩ := hx
    exact Yl.pure (fun W => run_len' hu W) rfl
  · rename_i e' l hu
    cases h
    obtain ⟨ad, cap, rfl, _⟩ := hx
    exact Yl.pure (fun W => run_len' hu W) rfl
  · rename_i e' m n f hu
    cases h
    obtain ⟨ad, cap, rfl, _⟩ := hx
    exact Yl.pure (fun W => run_len' hu W) rfl
  · rename_i e' k m off n hu
    cases h
    obtain ⟨p, cap, _, rfl, _⟩ := hx
    exact Yl.pure (fun W => run_len' hu W) rfl
  · rename_i s hu
    cases h; rw [show v = _ from hx]
    exact Yl.pure (fun W => run_len_str' hu W) rfl
  · cases h
theorem toList_one {α : Type} {l : Array α} {x : α} (h : l.toList = [x]) : l = #[x] := by cases l; simp at h; rw [h]
theorem toList_two {α : Type} {l : Array α} {x y : α} (h : l.toList = [x, y]) : l = #[x, y] := by cases l; simp at h; rw [h]
theorem builtD_sound (R : Rel P Γ N S ρ a w) (o : Oper) {c : Call} {b : Builtin} {d : DV} {vc : Prop} (ho : o.op = .call c) (hc : c.callee = .builtin b) (h : builtD P S b c.args.toList c.argTypes.toList = some (d, vc)) :
    ∃ v, (∀ W, Keep N w W → (execOp a.eval o).run P W = .ok (.value v) W) ∧ RepV (MS N S.h ρ) w d ρ v := by
  have rep := fun x => opd_rep R x
  unfold builtD at h
  split at h
  · split at h
    · rename_i x ha
      split at h
      · rename_i t ht
        exact exec_builtin (s := Builtin.len_ #[t] o.type #[a.eval x]) ho hc (by rw [toList_one ha, toList_one ht]; simp [builtin]) (lenD_sound (rep x) h)
      · cases h
    · cases h
  · split at h
    · rename_i x y ha
      have hx := rep x
      have hy := rep y
      unfold maxD at h
      split at h
      · rename_i k n k' n' e1 e2
        cases h
        rw [e1] at hx
        rw [e2] at hy
        refine exec_builtin (s := Builtin.max_ c.argTypes o.type #[a.eval x, a.eval y]) ho hc (by rw [toList_two ha]; simp [builtin]) ?_
        rw [show a.eval x = _ from hx, show a.eval y = _ from hy]
        exact Yl.pure (fun W => by simp [Builtin.max_, Builtin.max2]) rfl
      · cases h
    · cases h
  · split at h
    · rename_i x y ha
      have hx := rep x
      have hy := rep y
      unfold minD at h
      split at h
      · rename_i k n k' n' e1 e2
        cases h
        rw [e1] at hx
        rw [e2] at hy
        refine exec_builtin (s := Builtin.min_ c.argTypes o.type #[a.eval x, a.eval y]) ho hc (by rw [toList_two ha]; simp [builtin]) ?_
        rw [show a.eval x = _ from hx, show a.eval y = _ from hy]
        exact Yl.pure (fun W => by simp [Builtin.min_, Builtin.min2]) rfl
      · cases h
    · cases h
  · cases h

theorem pop_sound (R : Rel P Γ N S ρ a w) (o : Oper) {d : DV} {vc : Prop} (h : pop P S o.op = some (d, vc)) (hv : vc) :
    ∃ v, (∀ W, Keep N w W → (execOp a.eval o).run P W = .ok (.value v) W) ∧ RepV (MS N S.h ρ) w d ρ v := by
  have rep := fun x => opd_rep R x
  unfold pop at h
  split at h
  · rename_i x ho
    cases h
    exact ⟨a.eval x, fun W _ => by unfold execOp; rw [ho]; rfl, rep x⟩
  · rename_i x ho
    cases h
    exact ⟨a.eval x, fun W _ => by unfold execOp; rw [ho]; rfl, rep x⟩
  · rename_i c x y ho
    have hc := rep c
    split at h
    · rename_i e
      cases h
      rw [e] at hc
      exact ⟨a.eval x, fun W _ => by unfold execOp; rw [ho]; simp only [show a.eval c = .bool true from hc]; rfl, rep x⟩
    · rename_i e
      cases h
      rw [e] at hc
      exact ⟨a.eval y, fun W _ => by unfold execOp; rw [ho]; simp only [show a.eval c = .bool false from hc]; rfl, rep y⟩
    · cases h
  · rename_i t x ho
    exact execOp_value (by unfold execOp; rw [ho]) (loadD_sound R (rep x) h hv)
  · rename_i op t x y t' ho
    exact execOp_value (by unfold execOp; rw [ho]) (binD_sound x y (rep x) (rep y) h hv)
  · rename_i op t x ho
    have hx := rep x
    refine execOp_value (s := Op.unary op (a.eval x)) (by unfold execOp; rw [ho]) ?_
    split at h
    · rename_i b e
      cases h
      rw [e] at hx
      rw [show a.eval x = .bool b from hx]
      exact Yl.pure (fun W => rfl) rfl
    · rename_i k n e
      cases h
      rw [e] at hx
      rw [show a.eval x = .int k n from hx]
      exact Yl.pure (fun W => rfl) rfl
    · rename_i k n e
      cases h
      rw [e] at hx
      rw [show a.eval x = .int k n from hx]
      exact Yl.pure (fun W => rfl) rfl
    · cases h
  · rename_i ts td x ho
    have hx := rep x
    split at h
    · rename_i dd k k' n hs hd e
      cases h
      rw [e] at hx
      refine execOp_value (s := convert ts td (a.eval x)) (by unfold execOp; rw [ho]) ?_
      rw [show a.eval x = .int k' n from hx]
      refine Yl.pure (v := .int k (k.wrap n)) (fun W => ?_) rfl
      simp [convert, run_underlying hs, run_underlying (intB_spec hd), Conv.intToInt]
    · cases h
  · rename_i x ho
    have hx := rep x
    split at h
    · rename_i m f e
      cases h
      rw [e] at hx
      obtain ⟨b, oo, hb, hr⟩ := fp_cell hx
      exact ⟨_, fun W _ => by unfold execOp; rw [ho]; simp only [hb]; rfl, b, oo, rfl, hr⟩
    · rename_i k j e
      cases h
      rw [e] at hx
      obtain ⟨p, hp, hb⟩ := hx
      exact ⟨_, fun W _ => by unfold execOp; rw [ho]; simp only [hb]; rfl, p, hp, rfl⟩
    · rename_i k m i j e
      cases h
      rw [e] at hx
      obtain ⟨p, hp, hb⟩ := hx
      exact ⟨_, fun W _ => by unfold execOp; rw [ho]; simp only [hb]; rfl, p, hp, rfl⟩
    · rename_i g m c e
      cases h
      rw [e] at hx
      obtain ⟨lb, hb, hr⟩ := hx
      exact ⟨_, fun W _ => by unfold execOp; rw [ho]; simp only [hb]; rfl, lb, rfl, hr⟩
    · cases h
  · rename_i st x f ho
    have hx := rep x
    split at h
    · rename_i off sz hf
      refine execOp_value (s := Instr.fieldAt st (a.eval x) f) (by unfold execOp; rw [ho]) ?_
      split at h
      · rename_i m g e
        split at h
        · cases h
          rw [e] at hx
          obtain ⟨b, oo, hb, hr⟩ := fp_cell hx
          rw [hb]
          refine Yl.pure (fun W => run_fieldAt' hf W) ⟨b, _, rfl, fun j hj => ?_⟩
          obtain ⟨g1, u, g2, g3⟩ := hr (off + j) (by omega)
          exact ⟨g1, u, by rw [Nat.add_assoc]; exact g2, tab_rep hj g3⟩
        · cases h
      · rename_i k j e
        cases h
        rw [e] at hx
        obtain ⟨p, hp, hb⟩ := hx
        rw [hb]
        exact Yl.pure (fun W => run_fieldAt' hf W) ⟨p, hp, by rw [Nat.add_assoc]⟩
      · rename_i k m i j e
        cases h
        rw [e] at hx
        obtain ⟨p, hp, hb⟩ := hx
        rw [hb]
        exact Yl.pure (fun W => run_fieldAt' hf W) ⟨p, hp, by rw [Nat.add_assoc, Nat.add_assoc]⟩
      · cases h
    · cases h
  · rename_i t x i ho
    have hi := rep i
    split at h
    · rename_i k n e
      rw [e] at hi
      refine execOp_value (s := Instr.indexAt t (a.eval x) (a.eval i)) (by unfold execOp; rw [ho]) ?_
      rw [show a.eval i = .int k n from hi]
      exact idxD_sound R (rep x) h hv
    · cases h
  · rename_i x i ho
    have hx := rep x
    split at h
    · rename_i m f e
      split at h
      · rename_i hi
        cases h
        rw [e] at hx
        obtain ⟨cs, hb, hs, hr⟩ := hx
        obtain ⟨u, g1, g2⟩ := hr i hi
        refine execOp_value (s := Instr.extract (a.eval x) i) (by unfold execOp; rw [ho]) ?_
        rw [hb]
        exact Yl.pure (fun W => by simp [Instr.extract, g1]) g2
      · cases h
    · cases h
  · rename_i g first c ho
    split at h
    · rename_i hf
      cases h
      refine ⟨.func (.func g) #[] (c.map a.eval), fun W _ => ?_, c.map a.eval, rfl, by simp, fun j hj => ?_⟩
      · unfold execOp; rw [ho]
        have : first = #[] := Array.eq_empty_of_size_eq_zero hf
        subst this; simp [Instr.makeFunc]
      · refine ⟨a.eval (c.getD j (.const undef)), by simp [hj], tab_rep hj (rep _)⟩
    · cases h
  · rename_i c ho
    split at h
    · rename_i b hc
      exact builtD_sound R o ho hc h
    · cases h
  · cases h

end
end Go.Proofs.YtekkngkphejfcaaDoor
