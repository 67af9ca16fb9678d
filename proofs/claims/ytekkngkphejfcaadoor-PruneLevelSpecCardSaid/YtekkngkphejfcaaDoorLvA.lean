/- Part 1 of 5 of what the proofs of these laws stand on. -/
import Derived.WalkKit
import Derived.WalkSpells
import Derived.WalkLawsBesides
import Derived.Lib.Hide
import Derived.OrdersHeld
import Derived.Deep.RegionHeld
import Derived.BigQuiet
import Derived.OrdersIn
import Derived.TacticsIn
import Derived.RangeFuncOwn
import Derived.RangeFuncNested
import Derived.RangeFuncCalls
import Derived.Laws.IdiomRangeMap
import Derived.Laws.Cells
import Derived.Laws.Cover3
import Derived.Laws.StructEq
import Derived.ChangeKeysEq
import Derived.RowKit
import Derived.Deep.AppendSrc
import Derived.Laws.MakeOwn
import Derived.Great.BuildSlice
import Derived.Sort.LoopGhostIn
set_option linter.all false
namespace Go.Proofs.YtekkngkphejfcaaDoor
open Go.RowKit
/-- What lay in memory lies there still. -/
def Ext (w w' : World) : Prop := Below w.heap.size w w'
theorem Ext.refl (w : World) : Ext w w := Below.refl _ _
theorem Ext.trans {a b c : World} (h : Ext a b) (k : Ext b c) : Ext a c := Below.trans h (Below.mono k h.size)
theorem Ext.alloc (w : World) (o : Obj) : Ext w (w.alloc o) := (Below.refl _ _).alloc (Nat.le_refl _) o
theorem Ext.allocR {w w' : World} (h : Ext w w') (o : Obj) : Ext w (w'.alloc o) := h.trans (Ext.alloc w' o)
theorem Ext.drewR {w w' : World} (h : Ext w w') : Ext w w'.drew := Below.drew h
theorem Ext.size {w w' : World} (h : Ext w w') : w.heap.size ≤ w'.heap.size := Below.size h
theorem Ext.cells {w w' : World} (h : Ext w w') : ∀ b o, b < w.heap.size → w'.cell? ⟨b, o, none⟩ = w.cell? ⟨b, o, none⟩ :=
  fun b o hb => Below.cell h (p := ⟨b, o, none⟩) hb
theorem Ext.cell {w w' : World} (h : Ext w w') {b o : Nat} {u : Value} (hc : w.cell? ⟨b, o, none⟩ = some u) : w'.cell? ⟨b, o, none⟩ = some u := by
  rw [h.cells b o (World.block_lt_of_cell? w ⟨b, o, none⟩ hc)]; exact hc
/-- An error code: 0, or one. -/
def errOf (b : Bool) (e : Int) : Int := if b then 0 else e
theorem errOf_true (e : Int) : errOf true e = 0 := rfl
/-- A constraint, a problem. -/
structure ConsD where
  kind : Int
  cells : List Int
  set : Int
  other : Int
  lo : Int
  hi : Int
  runs : List Int
  rule : Int
  spot : Int
  deriving DecidableEq, Inhabited
structure ProbD where
  cells : Int
  symbols : Int
  values : List Int
  nbrs : List (List Int)
  cons : List ConsD
  deriving DecidableEq, Inhabited
end Go.Proofs.YtekkngkphejfcaaDoor
namespace Go.Proofs.YtekkngkphejfcaaDoor
open Go.RowKit
/-- An operation that yields a value, or panics, and calls no Go function. -/
def plainOp : Op → Bool
  | .move _ | .assign _ | .pick .. | .load .. | .binOp .. | .unOp .. | .convert .. | .makeFunc .. | .slice .. | .fieldAddr .. | .field .. | .indexAddr .. | .index .. | .extract .. | .build .. | .lookup .. | .makeInterface .. | .nilCheck _ => true
  | .call c => match c.callee with
    | .builtin .len | .builtin .cap | .builtin .min | .builtin .max => true
    | _ => false
  | _ => false
theorem value_of_bind {P : Program} {w w' : World} {α : Type} {s : Sem α} {f : α → Value} {n : Next} (h : (s >>= fun x => (pure (.value (f x)) : Sem Next)).run P w = .ok n w') : ∃ v, n = .value v := by
  rw [Sem.run_bind] at h
  cases hs : s.run P w with
  | ok v w1 => rw [hs] at h; simp only [Result.andThen] at h; cases h; exact ⟨_, rfl⟩
  | halt x w1 => rw [hs] at h; simp only [Result.andThen] at h; cases h
theorem plain_value {P : Program} {ρ : Operand → Value} {o : Oper} {w w' : World} {n : Next} (hp : plainOp o.op = true) (h : (execOp ρ o).run P w = .ok n w') : ∃ v, n = .value v := by
  unfold execOp at h
  cases ho : o.op <;> rw [ho] at hp h <;> simp only [plainOp, Bool.false_eq_true] at hp
  all_goals first | exact value_of_bind (f := fun x => x) h | (cases h; exact ⟨_, rfl⟩) | skip
  · rename_i c x y
    exact value_of_bind (s := asBool (ρ c)) (f := fun b => if b then ρ x else ρ y) h
  · rename_i x
    have hb : ∀ {α : Type} (s : Sem α) (f : α → Sem Next) (w0 : World), (∀ a w1, (f a).run P w1 = .ok n w' → ∃ v, n = .value v) → (s >>= f).run P w0 = .ok n w' → ∃ v, n = .value v := by
      intro α s f w0 hf hr
      rw [Sem.run_bind] at hr
      cases hs : s.run P w0 with
      | ok v w1 => rw [hs] at hr; exact hf _ _ hr
      | halt x w1 => rw [hs] at hr; simp only [Result.andThen] at hr; cases hr
    have hpan : (runtimePanic .nilDeref : Sem Next).run P w = .ok n w' → ∃ v, n = .value v := by
      intro he
      unfold runtimePanic at he
      refine hb _ _ _ ?_ he
      intro a w1 h1
      cases h1
    simp only at h
    split at h
    · exact hpan h
    · exact hpan h
    · exact hpan h
    · split at h
      · exact hpan h
      · refine hb _ _ _ ?_ h
        intro p w1 h1
        refine hb _ _ _ ?_ h1
        intro q w2 h2
        split at h2
        · refine hb _ _ _ ?_ h2
          intro r w3 h3
          cases h3
          exact ⟨_, rfl⟩
        · cases h2
          exact ⟨_, rfl⟩
      · cases h; exact ⟨_, rfl⟩
    · cases h; exact ⟨_, rfl⟩
  · rename_i c
    replace h : ((resolve ρ c o.type) >>= fun d => invoke d.target d.args).run P w = .ok n w' := h
    rw [Sem.run_bind] at h
    unfold resolve at h
    cases hc : c.callee with
    | value f => rw [hc] at hp; simp at hp
    | invoke r m => rw [hc] at hp; simp at hp
    | builtin b =>
      rw [hc] at hp h
      have e : ∀ d : Deferred, (pure d : Sem Deferred).run P w = .ok d w := fun _ => rfl
      simp only [e, Result.andThen] at h
      unfold invoke at h
      cases b <;> simp at hp <;> exact value_of_bind (f := fun x => x) h
/-- A world in which what lay lies still. -/
structure Later (w : World) where
  W : World
  le : Ext w W
def ExtC (w : World) : World → Prop := fun w' => ∃ x : Later w, w' = x.W
theorem ExtC.iff {w w' : World} : ExtC w w' ↔ Ext w w' := ⟨fun ⟨x, e⟩ => e ▸ x.le, fun h => ⟨⟨w', h⟩, rfl⟩⟩
theorem Ext.toDrew (w : World) : Ext w w.drew := Ext.drewR (Ext.refl w)
section
variable {P : Program} {ops : Array Oper} {Q : Exit → Act → World → Prop}
theorem yieldsIf_of_quiet {w : World} {o : Oper} {a : Act} {v : Value} (hp : plainOp o.op = true) (hw : Region.wanted o (yielded ops a.tmps) = true)
    (h : ∀ w', ExtC w w' → o.quietAt P a (ExtC w) w' v) : YieldsIf P ops (Ext w) o v a := by
  refine .inl ⟨hw, fun w' hE => ?_⟩
  have := h w' (ExtC.iff.2 hE)
  unfold Oper.quietAt at this
  cases hr : (execOp a.eval o).run P w' with
  | halt x w1 => rw [hr] at this; simp [Oper.quietUpon] at this
  | ok n w1 =>
    obtain ⟨u, rfl⟩ := plain_value hp hr
    rw [hr] at this
    obtain ⟨rfl, rfl⟩ := this
    rfl
/-- Q, but False at a panic. -/
def NP (Q : Exit → Act → World → Prop) : Exit → Act → World → Prop
  | .panic _, _, _ => False
  | e, a, w => Q e a w
theorem NP.put (c : List PanicEntry) (a : Act) (d : Option Tmp) (v : Value) (w : World) (h : NP Q (.panic c) (a.put d v) w) : NP Q (.panic c) a w := h.elim
/-- Whatever has come up has come up behind what it waits for. -/
def Closed (ops : Array Oper) (listed : Array Bool) : Prop := ∀ (j : Nat) (oj : Oper), ops[j]? = some oj → listed.getD j false = true → ∀ e ∈ oj.after, Region.binds .any e = true → listed.getD e.on false = true
theorem Closed.set {listed : Array Bool} {i : Nat} (h : Closed ops listed) (hi : i ∈ Region.ready .any ops listed) : Closed ops (listed.setIfInBounds i true) := by
  obtain ⟨_, oi, hoi, hall⟩ := mem_ready.1 hi
  intro j oj hj hl e he hb
  by_cases hij : i = j
  · subst hij
    have : oj = oi := Option.some.inj (hj.symm.trans hoi)
    subst this
    exact getD_set_true (hall e he hb)
  · rw [getD_set_ne false hij] at hl
    exact getD_set_true (h j oj hj hl e he hb)
def waits (ops : Array Oper) : Nat → Nat → Nat → Bool
  | 0, _, _ => false
  | n + 1, t, i => match ops[t]? with
    | none => false
    | some o => o.after.any fun e => Region.binds .any e && (e.on == i || waits ops n e.on i)
theorem waits_listed {listed : Array Bool} (hc : Closed ops listed) : ∀ (n t i : Nat) (o : Oper), ops[t]? = some o → (∀ e ∈ o.after, Region.binds .any e = true → listed.getD e.on false = true) → waits ops n t i = true → listed.getD i false = true
  | 0, _, _, _, _, _, h => by simp [waits] at h
  | n + 1, t, i, o, ho, hall, h => by
    simp only [waits, ho] at h
    obtain ⟨e, he, hb⟩ := Array.any_eq_true'.1 h
    simp only [Bool.and_eq_true, Bool.or_eq_true, beq_iff_eq] at hb
    obtain ⟨hb, h1 | h1⟩ := hb
    · rw [← h1]; exact hall e he hb
    · cases he2 : ops[e.on]? with
      | none => cases n <;> simp [waits, he2] at h1
      | some o2 => exact waits_listed hc n e.on i o2 he2 (hc e.on o2 he2 (hall e he hb)) h1
theorem getD_false_of_true {listed : Array Bool} {i : Nat} (h : listed.getD i true = false) : listed.getD i false = false := by
  rcases Nat.lt_or_ge i listed.size with h' | h'
  · simp [h'] at h ⊢; exact h
  · simp [Array.getElem?_eq_none h'] at h
def pickOps (ops : Array Oper) : List Nat → List Oper
  | [] => []
  | i :: l => match ops[i]? with | some o => o :: pickOps ops l | none => pickOps ops l
def segOk (ops : Array Oper) (isT : Nat → Bool) : List Nat → Array Bool → Bool
  | [], _ => true
  | i :: l, listed => (Region.ready .any ops listed).contains i && Region.free .any ops listed i && (match ops[i]? with | some o => plainOp o.op | none => false) &&
      ((List.range ops.size).all fun j => !isT j || waits ops ops.size j i) && segOk ops isT l (listed.setIfInBounds i true)
def segList (l : List Nat) (listed : Array Bool) : Array Bool := l.foldl (fun s i => s.setIfInBounds i true) listed
def tailOk (ops : Array Oper) : List Nat → Array Bool → Bool
  | [], listed => (Region.ready .any ops listed).isEmpty
  | t :: ts, listed => Region.ready .any ops listed == [t] && tailOk ops ts (listed.setIfInBounds t true)
def schedFrom (ops : Array Oper) (isT : Nat → Bool) : List (List Nat × Nat) → List Nat → List Nat → Array Bool → Bool
  | [], last, tail, listed => segOk ops isT last listed && ((List.range ops.size).all fun j => isT j || (segList last listed).getD j true) && tailOk ops tail (segList last listed)
  | (seg, i) :: more, last, tail, listed => segOk ops isT seg listed && (Region.ready .any ops (segList seg listed) == [i]) && schedFrom ops isT more last tail ((segList seg listed).setIfInBounds i true)
def headSize : List (List Nat × Nat) → List Nat → Nat
  | [], last => last.length
  | (seg, _) :: more, last => seg.length + (1 + headSize more last)
def schedB (ops : Array Oper) (steps : List (List Nat × Nat)) (last tail : List Nat) : Bool :=
  Region.noSelect ops && headSize steps last + tail.length == ops.size && schedFrom ops (fun j => tail.contains j) steps last tail (Array.replicate ops.size false)
theorem wpQuiet_mono {C : World → Prop} : ∀ (l : List Oper) (a : Act) (K K' : Act → Prop), (∀ a, K a → K' a) → wpQuiet P ops C K l a → wpQuiet P ops C K' l a
  | [], a, K, K', hk, h => hk a h
  | o :: l, a, K, K', hk, h => by
    unfold wpQuiet at *
    by_cases hw : Region.wanted o (yielded ops a.tmps) = true
    · rw [if_pos hw] at h ⊢; exact Oper.quiet_mono (fun a h => wpQuiet_mono l a K K' hk h) h
    · rw [if_neg hw] at h ⊢; exact wpQuiet_mono l _ K K' hk h
end
end Go.Proofs.YtekkngkphejfcaaDoor
namespace Go.Proofs.YtekkngkphejfcaaDoor
open Go.RowKit
def noDefer (ops : Array Oper) : Bool := ops.all fun o => match o.op with
  | .defer _ => false
  | _ => true
theorem noDefer_spec {ops : Array Oper} (h : noDefer ops = true) {j : Nat} {o : Oper} (hj : ops[j]? = some o) : ∀ c, o.op ≠ .defer c := by
  intro c hc
  have hm : o ∈ ops := Array.mem_of_getElem? hj
  have := Array.all_eq_true'.1 h o hm
  rw [hc] at this
  cases this
section
variable {F : Fence} {n : Nat} {P : Program} {ops : Array Oper} {Q : Exit → Act → World → Prop}
theorem yieldsIf_wpOpIn {S : World → Prop} {i : Nat} {o : Oper} {v : Value} {a : Act} (hF : ∀ f, F.fn f) (hd : ∀ c, o.op ≠ .defer c) (hi : ops[i]? = some o) (hy : YieldsIf P ops S o v a)
    {K : Act → World → Prop} {w : World} (hS : S w) (h : K (a.put o.dst v) w) : wpOpIn F n P ops Q i K a w := by
  unfold Go.wpOpIn
  simp only [hi]
  rcases hy with ⟨hw, hv⟩ | ⟨hw, rfl⟩
  · simp only [hw, if_true, Oper.wpIn, Oper.semAt_eq _ _ _ hd, hv w hS, Oper.uponIn]; exact ⟨fun f _ => hF f, h⟩
  · simp only [hw, Bool.false_eq_true, if_false]; exact ⟨fun f _ => hF f, h⟩
theorem wpOpIn_putIf {S : World → Prop} {j : Nat} {oi oj : Oper} {v : Value} (hF : ∀ f, F.fn f) (hdj : ∀ c, oj.op ≠ .defer c) (hj : ops[j]? = some oj) (hap : oi.apart ops oj = true)
    (hsi : ∀ cs b, oi.op ≠ .select cs b) (hsj : ∀ cs b, oj.op ≠ .select cs b)
    (hQ : ∀ c a w, Q (.panic c) (a.put oi.dst v) w → Q (.panic c) a w) {K : Act → World → Prop} {a : Act} {w : World}
    (hy : YieldsIf P ops S oi v a) (h : wpOpIn F n P ops Q j K (a.put oi.dst v) w) :
    wpOpIn F n P ops Q j (fun a' w' => YieldsIf P ops S oi v a' ∧ K (a'.put oi.dst v) w') a w := by
  obtain ⟨h1, h2, h3⟩ := Oper.apart_spec hap
  have keep : ∀ (a : Act), YieldsIf P ops S oi v a → ∀ u, YieldsIf P ops S oi v (a.put oj.dst u) := fun a hy u =>
    hy.of_same (execOp_put oi hsi a oj.dst u h3) (wanted_put oi a oj.dst u h3)
  have keepD : ∀ d, YieldsIf P ops S oi v { a with defers := d :: a.defers } := fun d => hy.of_same rfl rfl
  unfold wpOpIn at *
  simp only [hj] at *
  rw [wanted_put oj a oi.dst v h1] at h
  split
  · rename_i hw
    simp only [hw, if_true] at h
    unfold Oper.wpIn at *
    refine ⟨fun f _ => hF f, ?_⟩
    have h := h.2
    rw [Oper.semAt_eq _ _ _ hdj, execOp_put oj hsj a oi.dst v h1] at h
    rw [Oper.semAt_eq _ _ _ hdj]
    generalize (execOp a.eval oj).run P w = r at *
    cases r with
    | ok x w' =>
      cases x <;> simp only [Oper.uponIn] at h ⊢
      case value u => exact ⟨keep a hy u, by rw [← Act.put_comm a v u h2]; exact h⟩
      case skip => exact ⟨keep a hy _, by rw [← Act.put_comm a v undef h2]; exact h⟩
      case defer d =>
        refine ⟨keep _ (keepD d) _, ?_⟩
        rw [← Act.put_comm _ v undef h2, ← Act.put_defers]
        exact h
      case enter f args =>
        refine ⟨h.1, CallsIn.mono h.2 fun e w'' he => ?_⟩
        cases e with
        | returned u => exact ⟨keep a hy u, by rw [← Act.put_comm a v u h2]; exact he⟩
        | panicked c => exact hQ _ _ _ he
        | outgrown => exact he
      case row row args => exact ⟨h.1, RowsIn.mono h.2 fun u w'' he => ⟨keep a hy u, by rw [← Act.put_comm a v u h2]; exact he⟩⟩
      case round l f tmps assign body =>
        refine ⟨h.1, RoundIn.mono h.2 fun e w'' he => ?_⟩
        cases e with
        | returned u => exact ⟨keep a hy u, by rw [← Act.put_comm a v u h2]; exact he⟩
        | panicked c => exact hQ _ _ _ he
        | outgrown => exact he
    | halt x w' =>
      cases x <;> simp only [Oper.uponIn] at h ⊢
      case panic u => exact hQ _ _ _ h
  · rename_i hw
    simp only [hw] at h
    exact ⟨fun f _ => hF f, keep a hy _, by rw [← Act.put_comm a v undef h2]; exact h.2⟩
theorem wpOpIn_np {i : Nat} {K : Act → World → Prop} {a : Act} {w : World} (h : wpOpIn F n P ops (NP Q) i K a w) : wpOpIn F n P ops Q i K a w := by
  unfold wpOpIn at *
  split
  · rename_i ho; simp only [ho] at h; exact h
  · rename_i o ho
    simp only [ho] at h
    have hl : LetsOut (NP Q) → LetsOut Q := fun ⟨a, w, h⟩ => ⟨a, w, h⟩
    by_cases hw : Region.wanted o (yielded ops a.tmps) = true
    · rw [if_pos hw] at h ⊢
      unfold Oper.wpIn at *
      refine ⟨h.1, ?_⟩
      have h := h.2
      generalize (o.semAt F.round a.eval).run P w = r at *
      cases r with
      | ok x w' =>
        cases x <;> simp only [Oper.uponIn] at h ⊢ <;> first | exact h | skip
        · refine ⟨h.1, CallsIn.mono h.2 fun e w'' he => ?_⟩
          cases e with
          | returned v => exact he
          | panicked c => exact he.elim
          | outgrown => exact hl he
        · refine ⟨h.1, RoundIn.mono h.2 fun e w'' he => ?_⟩
          cases e with
          | returned v => exact he
          | panicked c => exact he.elim
          | outgrown => exact hl he
      | halt x w' => cases x <;> simp only [Oper.uponIn] at h ⊢; exact h.elim
    · rw [if_neg hw] at h ⊢; exact h
def wpAnyTIn (F : Fence) (n : Nat) (P : Program) (ops : Array Oper) (Q : Exit → Act → World → Prop) (isT : Nat → Bool) (g : Nat) (S : World → Prop) : Nat → Array Bool → Act → World → Prop
  | 0, listed, a, w => (∀ j, j < ops.size → isT j = false → listed.getD j true = true) ∧ wpAnyIn F n P .any ops Q g listed a w
  | m + 1, listed, a, w => Region.ready .any ops listed ≠ [] ∧ ∀ i ∈ Region.ready .any ops listed, wpOpIn F n P ops (NP Q) i (fun a' w' => S w' ∧ wpAnyTIn F n P ops Q isT g S m (listed.setIfInBounds i true) a' w') a w
theorem wpAnyTIn_mono {isT : Nat → Bool} {g : Nat} {S S' : World → Prop} (hS : ∀ w, S' w → S w) : ∀ (m : Nat) (listed : Array Bool) (a : Act) (w : World),
    wpAnyTIn F n P ops Q isT g S' m listed a w → wpAnyTIn F n P ops Q isT g S m listed a w
  | 0, _, _, _, h => h
  | m + 1, _, _, _, h => ⟨h.1, fun i hi => wpOpIn_mono (fun _ _ h' => ⟨hS _ h'.1, wpAnyTIn_mono hS m _ _ _ h'.2⟩) (h.2 i hi)⟩
theorem wpAnyIn_of_T {isT : Nat → Bool} {g : Nat} {S : World → Prop} : ∀ (m : Nat) (listed : Array Bool) (a : Act) (w : World), wpAnyTIn F n P ops Q isT g S m listed a w → wpAnyIn F n P .any ops Q (m + g) listed a w
  | 0, _, _, _, h => by rw [Nat.zero_add]; exact h.2
  | m + 1, _, _, _, h => by
    rw [show m + 1 + g = (m + g) + 1 by omega]
    exact ⟨fun h0 => absurd h0 h.1, fun i hi => wpOpIn_mono (fun a' w' h' => wpAnyIn_of_T m _ a' w' h'.2) (wpOpIn_np (h.2 i hi))⟩
theorem wpAnyTIn_first (hF : ∀ f, F.fn f) (hnd : noDefer ops = true) {isT : Nat → Bool} {g : Nat} {S : World → Prop} {i k : Nat} {oi : Oper} {v : Value} (hi : ops[i]? = some oi) (hsel : ∀ (j : Nat) (o : Oper) cs b, ops[j]? = some o → o.op ≠ .select cs b)
    (hT : ∀ j, j < ops.size → isT j = true → waits ops k j i = true) :
    ∀ (m : Nat) (listed : Array Bool) (a : Act) (w : World), Closed ops listed →
      (∀ j oj, ops[j]? = some oj → j ≠ i → listed.getD j true = false → (∀ e ∈ oj.after, Region.binds .any e = true → e.on ≠ i) → oi.apart ops oj = true) →
      i ∈ Region.ready .any ops listed → YieldsIf P ops S oi v a → S w →
      wpAnyTIn F n P ops Q isT g S m (listed.setIfInBounds i true) (a.put oi.dst v) w → wpAnyTIn F n P ops Q isT g S (m + 1) listed a w := by
  intro m
  induction m with
  | zero =>
    intro listed a w hcl _ hr hy hS H
    have hiun := (mem_ready.1 hr).1
    refine ⟨fun h => (by rw [h] at hr; cases hr), fun j hj => ?_⟩
    by_cases hji : j = i
    · subst hji; exact yieldsIf_wpOpIn hF (noDefer_spec hnd hi) hi hy hS ⟨hS, H⟩
    · exfalso
      obtain ⟨hjun, oj, hoj, hall⟩ := mem_ready.1 hj
      have hjs := (Array.getElem?_eq_some_iff.1 hoj).1
      cases ht : isT j with
      | true =>
        have := waits_listed hcl k j i oj hoj hall (hT j hjs ht)
        rw [getD_false_of_true hiun] at this
        cases this
      | false =>
        have := H.1 j hjs ht
        rw [getD_set_ne true (Ne.symm hji), hjun] at this
        cases this
  | succ m ih =>
    intro listed a w hcl hfree hr hy hS H
    have hiun := (mem_ready.1 hr).1
    refine ⟨fun h => (by rw [h] at hr; cases hr), fun j hj => ?_⟩
    by_cases hji : j = i
    · subst hji; exact yieldsIf_wpOpIn hF (noDefer_spec hnd hi) hi hy hS ⟨hS, H⟩
    · have h1 := H.2 j (ready_mono hj hji)
      obtain ⟨hjun, oj, hoj, hall⟩ := mem_ready.1 hj
      have hnot : ∀ e ∈ oj.after, Region.binds .any e = true → e.on ≠ i := fun e he hb heq => by
        have h1 := hall e he hb
        rw [heq, getD_false_of_true hiun] at h1
        cases h1
      have h2 := wpOpIn_putIf hF (noDefer_spec hnd hoj) hoj (hfree j oj hoj hji hjun hnot) (fun cs b => hsel i oi cs b hi) (fun cs b => hsel j oj cs b hoj) (fun c a w h => NP.put c a _ _ w h) hy h1
      have hfree' : ∀ k ok, ops[k]? = some ok → k ≠ i → (listed.setIfInBounds j true).getD k true = false →
          (∀ e ∈ ok.after, Region.binds .any e = true → e.on ≠ i) → oi.apart ops ok = true := fun k ok hk hki hun hno => by
        refine hfree k ok hk hki ?_ hno
        by_cases hjk : j = k
        · subst hjk; exact hjun
        · rw [getD_set_ne true hjk] at hun; exact hun
      refine wpOpIn_mono (fun a' w' h3 => ⟨h3.2.1, ih (listed.setIfInBounds j true) a' w' (hcl.set hj) hfree' (ready_mono hr (Ne.symm hji)) h3.1 h3.2.1 ?_⟩) h2
      rw [Array.setIfInBounds_comm _ _ hji]
      exact h3.2.2
def tailWIn (F : Fence) (n : Nat) (P : Program) (ops : Array Oper) (Q : Exit → Act → World → Prop) : List Nat → Act → World → Prop
  | [], a, w => Q .normal a w
  | t :: ts, a, w => wpOpIn F n P ops Q t (tailWIn F n P ops Q ts) a w
def heldIn (F : Fence) (n : Nat) (P : Program) (ops : Array Oper) (Q : Exit → Act → World → Prop) : List (List Nat × Nat) → List Nat → List Nat → Act → World → Prop
  | [], last, tail, a, w => wpQuiet P ops (fun w' => ∃ x : Later w, w' = x.W) (fun a' => tailWIn F n P ops Q tail a' w) (pickOps ops last) a
  | (seg, i) :: more, last, tail, a, w => wpQuiet P ops (fun w' => ∃ x : Later w, w' = x.W) (fun a' => wpOpIn F n P ops (NP Q) i (fun a'' w'' => Ext w w'' ∧ heldIn F n P ops Q more last tail a'' w'') a' w) (pickOps ops seg) a
theorem tailIn_sound : ∀ (tail : List Nat) (listed : Array Bool) (a : Act) (w : World), tailOk ops tail listed = true → tailWIn F n P ops Q tail a w → wpAnyIn F n P .any ops Q tail.length listed a w
  | [], listed, a, w, hk, h => ⟨by simpa [tailOk] using hk, h⟩
  | t :: ts, listed, a, w, hk, h => by
    simp only [tailOk, Bool.and_eq_true, beq_iff_eq] at hk
    refine ⟨fun h0 => (by rw [hk.1] at h0; cases h0), fun i hi => ?_⟩
    rw [hk.1, List.mem_singleton] at hi
    subst hi
    exact wpOpIn_mono (fun a' w' h' => tailIn_sound ts _ a' w' hk.2 h') h
theorem segIn_sound (hF : ∀ f, F.fn f) (hnd : noDefer ops = true) {w : World} {isT : Nat → Bool} {g : Nat} (hs : Region.noSelect ops = true) {next : Act → Prop} {m : Nat} :
    ∀ (l : List Nat) (listed : Array Bool) (a : Act), Closed ops listed → segOk ops isT l listed = true → wpQuiet P ops (ExtC w) next (pickOps ops l) a →
      (∀ a', Closed ops (segList l listed) → next a' → wpAnyTIn F n P ops Q isT g (Ext w) m (segList l listed) a' w) → wpAnyTIn F n P ops Q isT g (Ext w) (l.length + m) listed a w
  | [], listed, a, hcl, _, h, hn => by
    simp only [List.length_nil, Nat.zero_add]
    exact hn a hcl h
  | i :: l, listed, a, hcl, hk, h, hn => by
    simp only [segOk, Bool.and_eq_true] at hk
    obtain ⟨⟨⟨⟨hr, hf⟩, hp⟩, hT⟩, hk'⟩ := hk
    have hr' : i ∈ Region.ready .any ops listed := by simpa using hr
    have hT' : ∀ j, j < ops.size → isT j = true → waits ops ops.size j i = true := fun j hj ht => by
      have := List.all_eq_true.1 hT j (List.mem_range.2 hj)
      simpa [ht] using this
    have hfu : (i :: l).length + m = (l.length + m) + 1 := by simp; omega
    rw [hfu]
    cases hi : ops[i]? with
    | none => rw [hi] at hp; simp at hp
    | some o =>
      rw [hi] at hp
      simp only [pickOps, hi] at h
      unfold wpQuiet at h
      by_cases hw : Region.wanted o (yielded ops a.tmps) = true
      · rw [if_pos hw] at h
        obtain ⟨v, h1, h2⟩ := h
        exact wpAnyTIn_first hF hnd hi (Region.noSelect_spec hs) hT' _ listed a w hcl (Region.free_spec hi hf) hr' (yieldsIf_of_quiet hp hw h1) (Ext.refl _) (segIn_sound hF hnd hs l _ _ (hcl.set hr') hk' h2 hn)
      · rw [if_neg hw] at h
        exact wpAnyTIn_first hF hnd hi (Region.noSelect_spec hs) hT' _ listed a w hcl (Region.free_spec hi hf) hr' (.inr ⟨by simpa using hw, rfl⟩) (Ext.refl _) (segIn_sound hF hnd hs l _ _ (hcl.set hr') hk' h hn)
theorem heldIn_sound (hF : ∀ f, F.fn f) (hnd : noDefer ops = true) {isT : Nat → Bool} (hs : Region.noSelect ops = true) :
    ∀ (steps : List (List Nat × Nat)) (last tail : List Nat) (listed : Array Bool) (a : Act) (w : World), Closed ops listed → schedFrom ops isT steps last tail listed = true → heldIn F n P ops Q steps last tail a w →
      wpAnyTIn F n P ops Q isT tail.length (Ext w) (headSize steps last) listed a w
  | [], last, tail, listed, a, w, hcl, hk, h => by
    simp only [schedFrom, Bool.and_eq_true] at hk
    obtain ⟨⟨h1, h2⟩, h3⟩ := hk
    have := segIn_sound (m := 0) hF hnd hs last listed a hcl h1 h (fun a' _ hq => ⟨fun j hj ht => by
      have := List.all_eq_true.1 h2 j (List.mem_range.2 hj)
      simpa [ht] using this, tailIn_sound tail _ a' w h3 hq⟩)
    simpa [headSize] using this
  | (seg, i) :: more, last, tail, listed, a, w, hcl, hk, h => by
    simp only [schedFrom, Bool.and_eq_true, beq_iff_eq] at hk
    obtain ⟨⟨h1, h2⟩, h3⟩ := hk
    refine segIn_sound hF hnd hs seg listed a hcl h1 h fun a' hcl' hq => ?_
    rw [Nat.add_comm 1]
    refine ⟨fun h0 => (by rw [h2] at h0; cases h0), fun j hj => ?_⟩
    have hj' := hj
    rw [h2, List.mem_singleton] at hj
    subst hj
    refine wpOpIn_mono (fun a'' w'' h' => ⟨h'.1, ?_⟩) hq
    exact wpAnyTIn_mono (fun W hW => h'.1.trans hW) _ _ _ _ (heldIn_sound hF hnd hs more last tail _ a'' w'' (hcl'.set hj') h3 h'.2)
theorem wpIn_region_sched {id : Nat} {a : Act} {w : World} (hF : ∀ f, F.fn f) (steps : List (List Nat × Nat)) (last tail : List Nat) (hm : P.follows .mixedOrders = true) (hB : (schedB ops steps last tail && noDefer ops) = true)
    (h : heldIn F n P ops Q steps last tail a w.drew) : (Code.region id ops true).wpIn F n P Q a w := by
  simp only [schedB, Bool.and_eq_true, beq_iff_eq] at hB
  obtain ⟨⟨⟨h1, h2⟩, h3⟩, h4⟩ := hB
  have hcl : Closed ops (Array.replicate ops.size false) := fun j oj _ hl => by
    exfalso
    rcases Nat.lt_or_ge j ops.size with h | h
    · simp [h] at hl
    · simp [h] at hl
  have := wpAnyIn_of_T _ _ _ _ (heldIn_sound hF h4 h1 steps last tail _ a w.drew hcl h3 h)
  rw [h2] at this
  exact wpIn_region_any hm this
theorem tailIn_list : ∀ (tail : List Nat) (a : Act) (w : World), (∀ t ∈ tail, t < ops.size) → wpListIn F n P ops Q (pickOps ops tail) a w → tailWIn F n P ops Q tail a w
  | [], _, _, _, h => h
  | t :: ts, a, w, hl, h => by
    have ht : ops[t]? = some (ops[t]'(hl t (by simp))) := Array.getElem?_eq_getElem _
    simp only [pickOps, ht] at h
    unfold tailWIn wpOpIn
    simp only [ht]
    unfold wpListIn at h
    have hm : ∀ a w, wpListIn F n P ops Q (pickOps ops ts) a w → tailWIn F n P ops Q ts a w := fun a w h => tailIn_list ts a w (fun t ht => hl t (by simp [ht])) h
    by_cases hw : Region.wanted (ops[t]'(hl t (by simp))) (yielded ops a.tmps) = true
    · rw [if_pos hw] at h ⊢
      exact Oper.wpIn_mono hm h
    · rw [if_neg hw] at h ⊢
      exact ⟨h.1, hm _ _ h.2⟩
theorem heldIn_last {last tail : List Nat} {a : Act} {w : World} (ht : (tail.all fun t => decide (t < ops.size)) = true)
    (h : wpQuiet P ops (fun w' => ∃ x : Later w, w' = x.W) (fun a' => wpListIn F n P ops Q (pickOps ops tail) a' w) (pickOps ops last) a) :
    heldIn F n P ops Q [] last tail a w := by
  refine wpQuiet_mono _ _ _ _ (fun a' h => ?_) h
  exact tailIn_list tail a' w (fun t h => by simpa using List.all_eq_true.1 ht t h) h
end
end Go.Proofs.YtekkngkphejfcaaDoor
namespace Go.Proofs.YtekkngkphejfcaaDoor
open Go.RowKit
/-- What lay outside S lies as it lay. -/
structure Upd (S : Nat → Prop) (w w' : World) : Prop where
  os : w'.os = w.os
  tape : w'.tape = w.tape
  output : w'.output = w.output
  size : w.heap.size ≤ w'.heap.size
  block : ∀ k, k < w.heap.size → ¬ S k → w'.heap[k]? = w.heap[k]?
theorem Upd.refl (S : Nat → Prop) (w : World) : Upd S w w := ⟨rfl, rfl, rfl, Nat.le_refl _, fun _ _ _ => rfl⟩
theorem Upd.comp {S S' : Nat → Prop} {a b c : World} (h : Upd S a b) (k : Upd S' b c) (hs : ∀ i, i < a.heap.size → S' i → S i) : Upd S a c :=
  ⟨k.os.trans h.os, k.tape.trans h.tape, k.output.trans h.output, Nat.le_trans h.size k.size,
    fun i hi hn => (k.block i (Nat.lt_of_lt_of_le hi h.size) (fun hx => hn (hs i hi hx))).trans (h.block i hi hn)⟩
theorem Upd.trans {S : Nat → Prop} {a b c : World} (h : Upd S a b) (k : Upd S b c) : Upd S a c := h.comp k fun _ _ h => h
theorem Upd.mono {S S' : Nat → Prop} {a b : World} (h : Upd S a b) (hs : ∀ i, i < a.heap.size → S i → S' i) : Upd S' a b :=
  ⟨h.os, h.tape, h.output, h.size, fun i hi hn => h.block i hi fun hx => hn (hs i hi hx)⟩
theorem Upd.ofExt {S : Nat → Prop} {a b : World} (h : Ext a b) : Upd S a b := ⟨Below.os h, Below.tape h, Below.output h, Below.size h, fun i hi _ => Below.block h i hi⟩
theorem Upd.toExt {S : Nat → Prop} {a b : World} (h : Upd S a b) (hs : ∀ i, i < a.heap.size → ¬ S i) : Ext a b := ⟨h.os, h.tape, h.output, h.size, fun i hi => h.block i hi (hs i hi)⟩
theorem Upd.alloc {S : Nat → Prop} {a b : World} (h : Upd S a b) (o : Obj) : Upd S a (b.alloc o) := h.trans (Upd.ofExt (Ext.alloc b o))
theorem Upd.setCell {S : Nat → Prop} {a b : World} (h : Upd S a b) {p : Addr} (hp : p.block < a.heap.size → S p.block) (u : Value) : Upd S a (b.setCell p u) := by
  refine h.comp (S' := fun k => k = p.block) ⟨rfl, rfl, rfl, ?_, fun k _ hk => ?_⟩ (fun i hi e => by cases e; exact hp hi)
  · show b.heap.size ≤ (b.heap.modify _ _).size
    rw [Array.size_modify]; exact Nat.le_refl _
  · exact Below.heap_setCell b p u k hk
theorem Upd.putObj {S : Nat → Prop} {a b : World} (h : Upd S a b) {l : Nat} (hl : l < a.heap.size → S l) (o : Obj) : Upd S a (b.putObj l o) := by
  refine h.comp (S' := fun k => k = l) ⟨rfl, rfl, rfl, by simp, fun k _ hk => World.putObj_heap_other hk⟩ (fun i hi e => by cases e; exact hl hi)
theorem Upd.cell {S : Nat → Prop} {a b : World} (h : Upd S a b) {p : Addr} {u : Value} (hs : ¬ S p.block) (hc : a.cell? p = some u) : b.cell? p = some u := by
  rw [World.cell?_of_block (h.block p.block (World.block_lt_of_cell? a p hc) hs)]; exact hc
/-- A reading that minds neither new blocks nor what is done in G. -/
def Stable (I : (Nat → Prop) → World → Prop) : Prop :=
  ∀ (G G' : Nat → Prop) (A B : World), I G A → Upd G A B → (∀ k, G' k → G k ∨ A.heap.size ≤ k) → (∀ k, G' k → k < B.heap.size) → I G' B
/-- How a round is left by its body. -/
def roundQ (Keep : Nat → Prop) (I : World → Prop) (Ix : Code → World → Prop) (W : World) : Exit → Act → World → Prop
  | .normal, _, W' => Upd (fun k => ¬ Keep k) W W' ∧ I W'
  | .ret, _, W' => Upd (fun k => ¬ Keep k) W W' ∧ Ix .ret W'
  | .exit id, _, W' => Upd (fun k => ¬ Keep k) W W' ∧ Ix (.exit id) W'
  | .goto t, _, W' => Upd (fun k => ¬ Keep k) W W' ∧ Ix (.goto t) W'
  | .panic _, _, _ => False
  | .outgrown, _, _ => False
/-- The iterator (g, lb) yields what encs lists; G0 are its own blocks at w, Rd what it reads besides. -/
def Iter (P : Program) (g : Nat) (lb : Array Value) (encs : List (Array Value)) (G0 Rd : Nat → Prop) (w : World) : Prop :=
  ∀ (l : Nat) (J : Nat → (Nat → Prop) → World → Prop) (Jx : (Nat → Prop) → World → Prop) (G : Nat → Prop) (W : World),
    (∀ i, Stable (J i)) → Stable Jx → Upd (fun k => ¬ (G0 k ∨ Rd k)) w W → (∀ k, G0 k → G k) → (∀ k, G k → k < W.heap.size) →
    (∀ i args G W1, encs[i]? = some args → J i G W1 → YieldAt Fence.wide 0 P l args W1 fun e W' =>
      Upd (fun k => ¬ (G k ∨ Rd k)) W1 W' ∧ ((e = .returned (.bool true) ∧ J (i + 1) G W') ∨ (e = .returned (.bool false) ∧ Jx G W'))) →
    J 0 G W →
    CallsIn Fence.wide 0 P g (#[.func (.yield l) #[] #[]] ++ lb) W fun e W' => (∃ v, e = .returned v) ∧ ((∃ G', J encs.length G' W') ∨ (∃ G', Jx G' W'))
section
variable {P : Program}
/-- The part that both laws share: from the laid record on. -/
theorem range_core {ps : Array Tmp} {assign body : Code} {a : Act} {gf : Nat} {lb : Array Value} {encs : List (Array Value)} {G0 Rd : Nat → Prop} {w0 W1 : World} {l D dd : Nat} {fn : FuncId} {loose : Bool}
    (hseq : Iter P gf lb encs G0 Rd w0) (hb0 : Upd (fun k => ¬ (G0 k ∨ Rd k)) w0 W1) (hG0 : ∀ k, G0 k → k < l ∧ k ≠ D) (hRd : ∀ k, Rd k → k ≠ l) (hps : ∀ x ∈ encs, x.size = ps.size)
    (rec : LoopState → Option Code → Loop) (hrec : ∀ st pe, rec st pe = { state := st, pending := pe, fn, tmps := a.tmps, params := ps, assign, body, defers := dd })
    (hl1 : W1.heap[l]? = some (.loop (rec .ready none))) (hD1 : loose = false → W1.heap[D]? = some (.deferred (some []))) (hlD : D ≠ l)
    (I : Nat → (Nat → Prop) → World → Prop) (Ix : Code → (Nat → Prop) → World → Prop) (hI : ∀ i, Stable (I i)) (hIx : ∀ c, Stable (Ix c)) (own : Nat → Prop) (hown : ∀ k, own k → k = l ∨ (loose = false ∧ k = D)) (hol : own l) (hod : loose = false → own D)
    (h0 : I 0 (fun k => G0 k ∨ own k) W1)
    (hround : ∀ (G : Nat → Prop) (i : Nat) (x : Array Value) (W : World), encs[i]? = some x → I i G W → (∃ r, W.heap[l]? = some (.loop r)) → G l →
      assign.wpIn (Fence.wide.inRound l) 0 P (Exit.then (fun a₁ W₁ => ∃ K : (Nat → Prop) → World → Prop, Stable K ∧ Upd (fun k => ¬ (G k ∨ Rd k)) W W₁ ∧ K G W₁ ∧ ∀ W₂, K G W₂ → (∃ r, W₂.heap[l]? = some (.loop r)) →
        body.wpIn (Fence.wide.inRound l) 0 P (roundQ (fun k => G k ∨ Rd k) (I (i + 1) G) (fun c => Ix c G) W₂) a₁ W₂) (fun _ _ _ => False)) { tmps := (ps.zip x).foldl (fun t (p, v) => t.setIfInBounds p v) a.tmps, defers := [] } W) :
    CallsIn Fence.wide 0 P gf (#[.func (.yield l) #[] #[]] ++ lb) W1 fun e W2 => (∃ v, e = .returned v) ∧
      ((∃ G, I encs.length G W2 ∧ (∀ k, G k → k < W2.heap.size) ∧ G l ∧ (loose = false → G D) ∧ W2.heap[l]? = some (.loop (rec .ready none)) ∧ (loose = false → W2.heap[D]? = some (.deferred (some [])))) ∨
       (∃ c G, Ix c G W2 ∧ (∀ k, G k → k < W2.heap.size) ∧ G l ∧ (loose = false → G D) ∧ W2.heap[l]? = some (.loop (rec .done (some c))) ∧ (loose = false → W2.heap[D]? = some (.deferred (some []))))) := by
  have nG : ∀ (G G' : Nat → Prop) (A : World) (k : Nat) (o : Obj), ¬ G k → A.heap[k]? = some o → (∀ k, G' k → G k ∨ A.heap.size ≤ k) → ¬ G' k := fun G G' A k o hn hk hg hx => by
    have hlt := (Array.getElem?_eq_some_iff.1 hk).1
    rcases hg k hx with h | h
    · exact hn h
    · omega
  have kept : ∀ (G : Nat → Prop) (A B : World) (k : Nat) (o : Obj), ¬ G k → A.heap[k]? = some o → Upd G A B → B.heap[k]? = some o := fun G A B k o hn hk hu =>
    (hu.block k (Array.getElem?_eq_some_iff.1 hk).1 hn).trans hk
  have base : ∀ (Φ : (Nat → Prop) → World → Prop) (r : Loop), Stable Φ → Stable (fun G W => Φ (fun k => G k ∨ own k) W ∧ ¬ G l ∧ (loose = false → ¬ G D) ∧ W.heap[l]? = some (.loop r) ∧ (loose = false → W.heap[D]? = some (.deferred (some []))) ∧ ∀ k, G k → k < W.heap.size) := by
    intro Φ r hΦ G G' A B ⟨h1, h2, h3, h4, h5, h6⟩ hu hg hgb
    refine ⟨hΦ _ _ A B h1 (hu.mono fun i _ h => .inl h) (fun k hk => ?_) (fun k hk => hk.elim (hgb k) fun ho => Nat.lt_of_lt_of_le ((hown k ho).elim (fun e => e ▸ (Array.getElem?_eq_some_iff.1 h4).1) (fun e => e.2 ▸ (Array.getElem?_eq_some_iff.1 (h5 e.1)).1)) hu.size), nG G G' A l _ h2 h4 hg, fun hl => nG G G' A D _ (h3 hl) (h5 hl) hg, kept G A B l _ h2 h4 hu, fun hl => kept G A B D _ (h3 hl) (h5 hl) hu, hgb⟩
    rcases hk with hk | hk
    · exact (hg k hk).imp .inl id
    · exact .inl (.inr hk)
  refine (hseq l
    (fun i G W => I i (fun k => G k ∨ own k) W ∧ ¬ G l ∧ (loose = false → ¬ G D) ∧ W.heap[l]? = some (.loop (rec .ready none)) ∧ (loose = false → W.heap[D]? = some (.deferred (some []))) ∧ ∀ k, G k → k < W.heap.size)
    (fun G W => ∃ c, Ix c (fun k => G k ∨ own k) W ∧ ¬ G l ∧ (loose = false → ¬ G D) ∧ W.heap[l]? = some (.loop (rec .done (some c))) ∧ (loose = false → W.heap[D]? = some (.deferred (some []))) ∧ ∀ k, G k → k < W.heap.size)
    G0 W1 (fun i => base (I i) _ (hI i)) (fun G G' A B ⟨c, h⟩ hu hg hgb => ⟨c, base (Ix c) _ (hIx c) G G' A B h hu hg hgb⟩) hb0 (fun _ h => h) (fun k h => Nat.lt_trans (hG0 k h).1 (Array.getElem?_eq_some_iff.1 hl1).1) ?_
    ⟨h0, fun h => by have := (hG0 l h).1; omega, fun _ h => (hG0 D h).2 rfl, hl1, hD1, fun k h => Nat.lt_trans (hG0 k h).1 (Array.getElem?_eq_some_iff.1 hl1).1⟩).mono ?_
  · rintro i x G W hx ⟨hi, hnl, hnd, hl, hd, hgb⟩
    have hxm : x ∈ encs := List.mem_of_getElem? hx
    have hlt : l < W.heap.size := (Array.getElem?_eq_some_iff.1 hl).1
    have hob : ∀ k, (G k ∨ own k) → k < W.heap.size := fun k hk => hk.elim (hgb k) fun ho => (hown k ho).elim (fun e => e ▸ hlt) (fun e => e.2 ▸ (Array.getElem?_eq_some_iff.1 (hd e.1)).1)
    have hy := run_yield (P := P) (args := x) hl (by rw [hrec]; exact hps x hxm)
    rw [hrec] at hy
    refine ⟨fn, _, assign, body, hy, roundIn_of_wpIn trivial (wpIn_mono (hround _ i x W hx hi ⟨_, hl⟩ (.inr hol)) ?_)⟩
    rintro e a1 W1' hq
    cases e <;> first | exact hq.elim | skip
    obtain ⟨K, hK, hu1, hk1, hb⟩ := hq
    have hu1' : Upd (fun k => ¬ (G k ∨ Rd k)) W W1' := hu1.mono fun k _ h hx => h (hx.imp .inl id)
    have hl := (hu1.block l hlt (fun h => h (.inl (.inr hol)))).trans hl
    have hd : loose = false → W1'.heap[D]? = some (.deferred (some [])) := fun h => (hu1.block D (Array.getElem?_eq_some_iff.1 (hd h)).1 (fun hx => hx (.inl (.inr (hod h))))).trans (hd h)
    have hlt : l < W1'.heap.size := Nat.lt_of_lt_of_le hlt hu1.size
    have hgb : ∀ k, G k → k < W1'.heap.size := fun k h => Nat.lt_of_lt_of_le (hgb k h) hu1.size
    have hob : ∀ k, (G k ∨ own k) → k < W1'.heap.size := fun k h => Nat.lt_of_lt_of_le (hob k h) hu1.size
    refine ⟨_, run_beginRound hl (by rw [hrec]), ?_⟩
    have hl2 : (W1'.putObj l (.loop { rec .ready none with state := .busy })).heap[l]? = some (.loop { rec .ready none with state := .busy }) := World.putObj_heap_same hlt
    have hd2 : loose = false → (W1'.putObj l (.loop { rec .ready none with state := .busy })).heap[D]? = some (.deferred (some [])) := fun h => (World.putObj_heap_other hlD).trans (hd h)
    have hu2 : Upd (fun k => G k ∨ own k) W1' (W1'.putObj l (.loop { rec .ready none with state := .busy })) := (Upd.refl _ W1').putObj (fun _ => .inr hol) _
    refine wpIn_mono (hb _ (hK _ _ _ _ hk1 hu2 (fun k h => .inl h) (fun k h => Nat.lt_of_lt_of_le (hob k h) hu2.size)) ⟨_, hl2⟩) ?_
    have fin : ∀ (jump : Option Code) (W3 : World), Upd (fun k => ¬ ((G k ∨ own k) ∨ Rd k)) (W1'.putObj l (.loop { rec .ready none with state := .busy })) W3 →
        (Instr.endRound l jump).run P W3 = .ok (.bool jump.isNone) (W3.putObj l (.loop (rec (if jump.isNone then .ready else .done) jump))) ∧
        W3.heap[l]? = some (.loop { rec .ready none with state := .busy }) ∧
        (W3.putObj l (.loop (rec (if jump.isNone then .ready else .done) jump))).heap[l]? = some (.loop (rec (if jump.isNone then .ready else .done) jump)) ∧
        (loose = false → (W3.putObj l (.loop (rec (if jump.isNone then .ready else .done) jump))).heap[D]? = some (.deferred (some []))) ∧
        Upd (fun k => ¬ (G k ∨ Rd k)) W1' (W3.putObj l (.loop (rec (if jump.isNone then .ready else .done) jump))) ∧
        Upd (fun k => G k ∨ own k) W3 (W3.putObj l (.loop (rec (if jump.isNone then .ready else .done) jump))) := fun jump W3 hk3 => by
      have hl3 : W3.heap[l]? = some (.loop { rec .ready none with state := .busy }) := (hk3.block l (by simpa using hlt) (fun h => h (.inl (.inr hol)))).trans hl2
      have := run_endRound (P := P) jump hl3
      refine ⟨by rw [hrec] at this ⊢; exact this, hl3, World.putObj_heap_same (Array.getElem?_eq_some_iff.1 hl3).1, fun h => (World.putObj_heap_other hlD).trans ((hk3.block D ?_ (fun hx => hx (.inl (.inr (hod h))))).trans (hd2 h)), ?_, (Upd.refl _ W3).putObj (fun _ => .inr hol) _⟩
      · simpa using (Array.getElem?_eq_some_iff.1 (hd h)).1
      · refine ⟨hk3.os, hk3.tape, hk3.output, by simpa using hk3.size, fun k hk hn => ?_⟩
        have hGR : G k ∨ Rd k := Classical.not_not.1 hn
        by_cases hkl : k = l
        · subst hkl
          exact (hGR.elim hnl (fun h => hRd k h rfl)).elim
        · rw [World.putObj_heap_other hkl, hk3.block k (by simpa using hk) (fun hx => hx (hGR.imp .inl id)), World.putObj_heap_other hkl]
    rintro e a3 W3 hp
    cases e with
    | normal =>
      obtain ⟨hk3, hi3⟩ := hp
      obtain ⟨hr, hl3, hl4, hd4, hu4, hu5⟩ := fin none W3 hk3
      exact ⟨_, _, hr, hu1'.comp hu4 (fun _ _ h => h), .inl ⟨rfl, hI _ _ _ _ _ hi3 hu5 (fun k h => .inl h) (fun k h => Nat.lt_of_lt_of_le (hob k h) (Nat.le_trans hu2.size (Nat.le_trans hk3.size hu5.size))), hnl, hnd, hl4, hd4, fun k h => Nat.lt_of_lt_of_le (hgb k h) (Nat.le_trans hu2.size (Nat.le_trans hk3.size hu5.size))⟩⟩
    | ret =>
      obtain ⟨hk3, hi3⟩ := hp
      obtain ⟨hr, hl3, hl4, hd4, hu4, hu5⟩ := fin (some .ret) W3 hk3
      exact ⟨_, _, hr, hu1'.comp hu4 (fun _ _ h => h), .inr ⟨rfl, .ret, hIx _ _ _ _ _ hi3 hu5 (fun k h => .inl h) (fun k h => Nat.lt_of_lt_of_le (hob k h) (Nat.le_trans hu2.size (Nat.le_trans hk3.size hu5.size))), hnl, hnd, hl4, hd4, fun k h => Nat.lt_of_lt_of_le (hgb k h) (Nat.le_trans hu2.size (Nat.le_trans hk3.size hu5.size))⟩⟩
    | exit id =>
      obtain ⟨hk3, hi3⟩ := hp
      obtain ⟨hr, hl3, hl4, hd4, hu4, hu5⟩ := fin (some (.exit id)) W3 hk3
      exact ⟨_, _, hr, hu1'.comp hu4 (fun _ _ h => h), .inr ⟨rfl, .exit id, hIx _ _ _ _ _ hi3 hu5 (fun k h => .inl h) (fun k h => Nat.lt_of_lt_of_le (hob k h) (Nat.le_trans hu2.size (Nat.le_trans hk3.size hu5.size))), hnl, hnd, hl4, hd4, fun k h => Nat.lt_of_lt_of_le (hgb k h) (Nat.le_trans hu2.size (Nat.le_trans hk3.size hu5.size))⟩⟩
    | goto t =>
      obtain ⟨hk3, hi3⟩ := hp
      obtain ⟨hr, hl3, hl4, hd4, hu4, hu5⟩ := fin (some (.goto t)) W3 hk3
      exact ⟨_, _, hr, hu1'.comp hu4 (fun _ _ h => h), .inr ⟨rfl, .goto t, hIx _ _ _ _ _ hi3 hu5 (fun k h => .inl h) (fun k h => Nat.lt_of_lt_of_le (hob k h) (Nat.le_trans hu2.size (Nat.le_trans hk3.size hu5.size))), hnl, hnd, hl4, hd4, fun k h => Nat.lt_of_lt_of_le (hgb k h) (Nat.le_trans hu2.size (Nat.le_trans hk3.size hu5.size))⟩⟩
    | panic ch => exact hp.elim
    | outgrown => exact hp.elim
  · have ob : ∀ (G : Nat → Prop) (W2 : World) (r : Loop), W2.heap[l]? = some (.loop r) → (loose = false → W2.heap[D]? = some (.deferred (some []))) → (∀ k, G k → k < W2.heap.size) → ∀ k, (G k ∨ own k) → k < W2.heap.size := fun G W2 r h4 h5 h6 k hk =>
      hk.elim (h6 k) fun ho => (hown k ho).elim (fun e => e ▸ (Array.getElem?_eq_some_iff.1 h4).1) (fun e => e.2 ▸ (Array.getElem?_eq_some_iff.1 (h5 e.1)).1)
    rintro e W2 ⟨hv, (⟨G, h1, h2, h3, h4, h5, h6⟩ | ⟨G, c, h1, h2, h3, h4, h5, h6⟩)⟩
    · exact ⟨hv, .inl ⟨_, h1, ob _ _ _ h4 h5 h6, .inr hol, fun h => .inr (hod h), h4, h5⟩⟩
    · exact ⟨hv, .inr ⟨c, _, h1, ob _ _ _ h4 h5 h6, .inr hol, fun h => .inr (hod h), h4, h5⟩⟩
/-- The law, outermost. -/
theorem wpIn_rangeFunc_iter {g : Operand} {ps : Array Tmp} {assign body : Code} {Q : Exit → Act → World → Prop} {a : Act} {w : World}
    {gf : Nat} {lb : Array Value} (hg : a.eval g = .func (.func gf) #[] lb) (eg : ∀ args w, (callFunc gf args).run P w = .ok (.enter gf args) w)
    {encs : List (Array Value)} {G0 Rd : Nat → Prop} (hseq : Iter P gf lb encs G0 Rd w) (hG0 : ∀ k, G0 k → k < w.heap.size) (hRd : ∀ k, Rd k → k < w.heap.size) (hps : ∀ x ∈ encs, x.size = ps.size)
    (I : Nat → (Nat → Prop) → World → Prop) (Ix : Code → (Nat → Prop) → World → Prop) (hI : ∀ i, Stable (I i)) (hIx : ∀ c, Stable (Ix c)) (h0 : I 0 G0 w)
    (hround : ∀ (l : Nat) (G : Nat → Prop) (i : Nat) (x : Array Value) (W : World), encs[i]? = some x → I i G W → (∃ r, W.heap[l]? = some (.loop r)) → G l →
      assign.wpIn (Fence.wide.inRound l) 0 P (Exit.then (fun a₁ W₁ => ∃ K : (Nat → Prop) → World → Prop, Stable K ∧ Upd (fun k => ¬ (G k ∨ Rd k)) W W₁ ∧ K G W₁ ∧ ∀ W₂, K G W₂ → (∃ r, W₂.heap[l]? = some (.loop r)) →
        body.wpIn (Fence.wide.inRound l) 0 P (roundQ (fun k => G k ∨ Rd k) (I (i + 1) G) (fun c => Ix c G) W₂) a₁ W₂) (fun _ _ _ => False)) { tmps := (ps.zip x).foldl (fun t (p, v) => t.setIfInBounds p v) a.tmps, defers := [] } W)
    (hdone : ∀ (D : Nat) (G : Nat → Prop) (W : World), I encs.length G W → W.heap[D]? = some (.deferred (some [])) → G D → w.heap.size ≤ D →
      Q .normal { a with defers := { target := .collected D, args := #[] } :: a.defers } W)
    (hstop : ∀ (D : Nat) (c : Code) (G : Nat → Prop) (W : World), Ix c G W → W.heap[D]? = some (.deferred (some [])) → G D → w.heap.size ≤ D →
      c.wpIn Fence.wide 0 P Q { a with defers := { target := .collected D, args := #[] } :: a.defers } W) :
    (Code.rangeFunc g ps assign body).wpIn Fence.wide 0 P Q a w := by
  refine wpIn_rangeFunc ?_
  intro fn _
  have hs2 : (w.alloc (.deferred (some []))).heap.size = w.heap.size + 1 := World.size_alloc _ _
  obtain ⟨rec, hrec⟩ : ∃ rec : LoopState → Option Code → Loop, ∀ st pe, rec st pe = { state := st, pending := pe, fn, tmps := a.tmps, params := ps, assign, body, defers := w.heap.size } := ⟨_, fun _ _ => rfl⟩
  obtain ⟨W1, hW1⟩ : ∃ W1, (w.alloc (.deferred (some []))).alloc (.loop (rec .ready none)) = W1 := ⟨_, rfl⟩
  have hL1 : W1.heap[w.heap.size + 1]? = some (.loop (rec .ready none)) := by
    rw [← hW1]; have := World.alloc_heap_new (w.alloc (.deferred (some []))) (.loop (rec .ready none)); rwa [World.size_alloc] at this
  have hK1 : W1.heap[w.heap.size]? = some (.deferred (some [])) := by
    rw [← hW1]; exact (Below.heap_alloc _ _ _ (by simp)).trans (World.alloc_heap_new w _)
  have hu : ∀ S, Upd S w W1 := fun S => by rw [← hW1]; exact ((Upd.refl S w).alloc _).alloc _
  refine ⟨w.heap.size + 1, [{ target := .collected w.heap.size, args := #[] }], W1, { target := .fn (.func gf) lb, args := #[.func (.yield (w.heap.size + 1)) #[] #[]] }, W1, gf,
    #[.func (.yield (w.heap.size + 1)) #[] #[]] ++ lb, W1, ?_, ?_, fun _ _ => trivial, ?_, (fun h => by cases h), ?_⟩
  · rw [← hW1, hrec]; exact run_enterLoop_outer _ _ _ _ _
  · simp only [resolve, hg]
    simp [go_sem]
  · simp [invoke, go_sem, eg]
  · refine (range_core (loose := false) (D := w.heap.size) hseq (hu _) (fun k h => by have := hG0 k h; omega) (fun k h => by have := hRd k h; omega) hps rec hrec hL1 (fun _ => hK1) (by omega)
      I Ix hI hIx (fun k => k = w.heap.size + 1 ∨ k = w.heap.size) (fun k h => h.imp id fun h => ⟨rfl, h⟩) (.inl rfl) (fun _ => .inr rfl)
      (hI 0 _ _ _ _ h0 (hu _) (fun k h => h.imp id (by omega)) (fun k h => by have h2 := (Array.getElem?_eq_some_iff.1 hL1).1; rcases h with h | h | h <;> first | omega | (have := hG0 k h; omega))) (hround _)).mono ?_
    rintro e W2 ⟨⟨v, rfl⟩, (⟨G, hi, hgb, _, hgd, hl, hk⟩ | ⟨c, G, hi, hgb, hgl, hgd, hl, hk⟩)⟩
    · exact ⟨none, _, by have := run_endLoop (P := P) hl (by rw [hrec]; simp); rw [hrec] at this; exact this,
        hdone _ _ _ (hI _ _ _ _ _ hi ((Upd.refl _ W2).putObj (fun _ => by assumption) _) (fun k h => .inl h) (fun k h => by simpa using hgb k h)) ((World.putObj_heap_other (by omega)).trans (hk rfl)) (hgd rfl) (Nat.le_refl _)⟩
    · exact ⟨some c, _, by have := run_endLoop (P := P) hl (by rw [hrec]; simp); rw [hrec] at this; exact this,
        hstop _ c _ _ (hIx _ _ _ _ _ hi ((Upd.refl _ W2).putObj (fun _ => hgl) _) (fun k h => .inl h) (fun k h => by simpa using hgb k h)) ((World.putObj_heap_other (by omega)).trans (hk rfl)) (hgd rfl) (Nat.le_refl _)⟩
/-- The law, within a round of another. -/
theorem wpIn_rangeFunc_inner {l0 : Nat} {g : Operand} {ps : Array Tmp} {assign body : Code} {Q : Exit → Act → World → Prop} {a : Act} {w : World}
    {gf : Nat} {lb : Array Value} (hg : a.eval g = .func (.func gf) #[] lb) (eg : ∀ args w, (callFunc gf args).run P w = .ok (.enter gf args) w) (hl0 : ∃ r, w.heap[l0]? = some (.loop r))
    {encs : List (Array Value)} {G0 Rd : Nat → Prop} (hseq : Iter P gf lb encs G0 Rd w) (hG0 : ∀ k, G0 k → k < w.heap.size) (hRd : ∀ k, Rd k → k < w.heap.size) (hps : ∀ x ∈ encs, x.size = ps.size)
    (I : Nat → (Nat → Prop) → World → Prop) (Ix : Code → (Nat → Prop) → World → Prop) (hI : ∀ i, Stable (I i)) (hIx : ∀ c, Stable (Ix c)) (h0 : I 0 G0 w)
    (hround : ∀ (l : Nat) (G : Nat → Prop) (i : Nat) (x : Array Value) (W : World), encs[i]? = some x → I i G W → (∃ r, W.heap[l]? = some (.loop r)) → G l →
      assign.wpIn (Fence.wide.inRound l) 0 P (Exit.then (fun a₁ W₁ => ∃ K : (Nat → Prop) → World → Prop, Stable K ∧ Upd (fun k => ¬ (G k ∨ Rd k)) W W₁ ∧ K G W₁ ∧ ∀ W₂, K G W₂ → (∃ r, W₂.heap[l]? = some (.loop r)) →
        body.wpIn (Fence.wide.inRound l) 0 P (roundQ (fun k => G k ∨ Rd k) (I (i + 1) G) (fun c => Ix c G) W₂) a₁ W₂) (fun _ _ _ => False)) { tmps := (ps.zip x).foldl (fun t (p, v) => t.setIfInBounds p v) a.tmps, defers := [] } W)
    (hdone : ∀ (G : Nat → Prop) (W : World), I encs.length G W → Q .normal a W)
    (hstop : ∀ (c : Code) (G : Nat → Prop) (W : World), Ix c G W → c.wpIn (Fence.wide.inRound l0) 0 P Q a W) :
    (Code.rangeFunc g ps assign body).wpIn (Fence.wide.inRound l0) 0 P Q a w := by
  refine wpIn_rangeFunc ?_
  intro fn _
  obtain ⟨r0, hr0⟩ := hl0
  obtain ⟨rec, hrec⟩ : ∃ rec : LoopState → Option Code → Loop, ∀ st pe, rec st pe = { state := st, pending := pe, fn, tmps := a.tmps, params := ps, assign, body, defers := r0.defers } := ⟨_, fun _ _ => rfl⟩
  obtain ⟨W1, hW1⟩ : ∃ W1, w.alloc (.loop (rec .ready none)) = W1 := ⟨_, rfl⟩
  have hL1 : W1.heap[w.heap.size]? = some (.loop (rec .ready none)) := by
    rw [← hW1]; exact World.alloc_heap_new w _
  have hu : ∀ S, Upd S w W1 := fun S => by rw [← hW1]; exact (Upd.refl S w).alloc _
  refine ⟨w.heap.size, [], W1, { target := .fn (.func gf) lb, args := #[.func (.yield w.heap.size) #[] #[]] }, W1, gf,
    #[.func (.yield w.heap.size) #[] #[]] ++ lb, W1, ?_, ?_, fun _ _ => trivial, ?_, (fun h => by cases h), ?_⟩
  · rw [← hW1, hrec]; exact run_enterLoop_inner hr0 _ _ _ _ _
  · simp only [resolve, hg]
    simp [go_sem]
  · simp [invoke, go_sem, eg]
  · refine CallsIn.inRound _ ((range_core (loose := true) (D := w.heap.size + 1) (G0 := G0) hseq (hu _) (fun k h => by have := hG0 k h; omega) (fun k h => by have := hRd k h; omega) hps rec hrec hL1 (fun h => by cases h) (by omega)
      I Ix hI hIx (fun k => k = w.heap.size) (fun k h => .inl h) rfl (fun h => by cases h)
      (hI 0 _ _ _ _ h0 (hu _) (fun k h => h.imp id (by omega)) (fun k h => by have h2 := (Array.getElem?_eq_some_iff.1 hL1).1; rcases h with h | h <;> first | omega | (have := hG0 k h; omega))) (hround _)).mono ?_)
    rintro e W2 ⟨⟨v, rfl⟩, (⟨G, hi, hgb, hgl, _, hl, _⟩ | ⟨c, G, hi, hgb, hgl, _, hl, _⟩)⟩
    · exact ⟨none, _, by have := run_endLoop (P := P) hl (by rw [hrec]; simp); rw [hrec] at this; exact this,
        hdone _ _ (hI _ _ _ _ _ hi ((Upd.refl _ W2).putObj (fun _ => hgl) _) (fun k h => .inl h) (fun k h => by simpa using hgb k h))⟩
    · exact ⟨some c, _, by have := run_endLoop (P := P) hl (by rw [hrec]; simp); rw [hrec] at this; exact this,
        hstop c _ _ (hIx _ _ _ _ _ hi ((Upd.refl _ W2).putObj (fun _ => hgl) _) (fun k h => .inl h) (fun k h => by simpa using hgb k h))⟩
end
/-- The marks that ranges over functions have left among the deferred calls: their blocks, made behind B, hold no call. -/
def Marks (B : Nat) : List Deferred → World → Prop
  | [], _ => True
  | d :: ds, w => ∃ D, d = { target := .collected D, args := #[] } ∧ B ≤ D ∧ w.heap[D]? = some (.deferred (some [])) ∧ (∀ d' ∈ ds, d'.target ≠ .collected D) ∧ Marks B ds w
theorem Marks.upd {B : Nat} {S : Nat → Prop} {w w' : World} (hu : Upd S w w') : ∀ {ds : List Deferred}, Marks B ds w → (∀ k, B ≤ k → S k → w.heap[k]? ≠ some (.deferred (some []))) → Marks B ds w'
  | [], _, _ => trivial
  | _ :: _, ⟨D, h1, h2, h3, h4, h5⟩, hs => ⟨D, h1, h2, (hu.block D (Array.getElem?_eq_some_iff.1 h3).1 (fun hx => hs D h2 hx h3)).trans h3, h4, Marks.upd hu h5 hs⟩
theorem Marks.lt {B : Nat} {w : World} : ∀ {ds : List Deferred} (_ : Marks B ds w) {d : Deferred} {D : Nat}, d ∈ ds → d.target = .collected D → D < w.heap.size
  | _ :: _, ⟨D, h1, h2, h3, h4, h5⟩, d, D', hm, ht => by
    rcases List.mem_cons.1 hm with rfl | hm
    · subst h1; cases ht; exact (Array.getElem?_eq_some_iff.1 h3).1
    · exact Marks.lt h5 hm ht
/-- Behind the marks: their blocks are shut. -/
def Shut (B : Nat) (w W : World) : Prop := Upd (fun k => B ≤ k ∧ w.heap[k]? = some (.deferred (some []))) w W
/-- What is asked at the end of a body that holds ranges over functions. -/
def postM (B : Nat) (P : Program) (fn : Func) (R : Ending → World → Prop) : Exit → Act → World → Prop
  | .normal, a, w | .ret, a, w => Marks B a.defers w ∧ ∀ W, Shut B w W → ∃ v, (results fn a.tmps).run P W = .ok v W ∧ R (.returned v) W
  | _, _, _ => False
theorem leaves_marks {B : Nat} {P : Program} {fn : Func} {tmps : Array Value} {R : Ending → World → Prop} : ∀ (ds : List Deferred) (w : World), Marks B ds w →
    (∀ W, Shut B w W → ∃ v, (results fn tmps).run P W = .ok v W ∧ R (.returned v) W) → LeavesInM Fence.wide 0 P fn tmps R ds .returning w
  | [], w, _, h => h w (Upd.refl _ w)
  | _ :: ds, w, ⟨D, h1, h2, h3, h4, h5⟩, h => by
    refine ⟨by simp, .inl ⟨D, _, by rw [h1], run_takeDeferred h3, ?_⟩⟩
    have hu : Upd (fun k => k = D) w (w.putObj D (.deferred none)) := (Upd.refl (fun k => k = D) w).putObj (fun _ => rfl) _
    have hne : ∀ {ds : List Deferred}, (∀ d' ∈ ds, d'.target ≠ .collected D) → Marks B ds w → Marks B ds (w.putObj D (.deferred none)) := by
      intro ds
      induction ds with
      | nil => intro _ _; trivial
      | cons d ds ih =>
        intro hd ⟨D', g1, g2, g3, g4, g5⟩
        refine ⟨D', g1, g2, ?_, g4, ih (fun d' hm => hd d' (by simp [hm])) g5⟩
        rw [World.putObj_heap_other (fun e => hd d (by simp) (by rw [g1, e]))]; exact g3
    refine leaves_marks ds _ (hne h4 h5) fun W hW => h W ?_
    refine hu.mono (S' := fun k => B ≤ k ∧ w.heap[k]? = some (.deferred (some []))) (fun i _ e => by cases e; exact ⟨h2, h3⟩) |>.comp hW fun i hi hx => ⟨hx.1, ?_⟩
    by_cases e : i = D
    · rw [e]; exact h3
    · rw [← World.putObj_heap_other (o := .deferred none) e]; exact hx.2
theorem calls_marks (B : Nat) {P : Program} {f : FuncId} {fn : Func} {c : Code} {args : Array Value} {w : World} {R : Ending → World → Prop}
    (hf : P.funcs[f]? = some fn) (hb : fn.body = some c)
    (h : c.wp P (postM B P fn R) { tmps := args ++ Array.replicate (fn.ntmps - args.size) undef, defers := [] } w) : Calls P f args w R := by
  refine (callsIn_wide (n := 0)).1 (callsIn_of_wp_marks hf hb trivial ?_)
  refine wpIn_mono (wpIn_wide.2 h) fun e a' w' hq => ?_
  cases e <;> first | exact leaves_marks _ _ hq.1 hq.2 | exact hq.elim
end Go.Proofs.YtekkngkphejfcaaDoor
namespace Go.Proofs.YtekkngkphejfcaaDoor
open Go.RowKit
inductive DV where
  | any
  | nils
  | int (k : IntKind) (n : Int)
  | bool (b : Bool)
  | str (s : ByteArray)
  | ints (l : List Int)
  | bools (l : List Bool)
  | sl (m n : Nat) (f : Nat → Nat → DV)
  | fp (m : Nat) (f : Nat → DV)
  | agg (m : Nat) (f : Nat → DV)
  | tup (m : Nat) (f : Nat → DV)
  | ref (k j : Nat)
  | msl (k m off n : Nat)
  | mp (k m i j : Nat)
  | fn (g : Nat) (m : Nat) (c : Nat → DV)
  | it (k : Nat)
  | yl (l : Nat)
  | mse (k m off n : Nat)
  | mri (k i : Nat)
  | cst (u : Value)
/-- Where an object lies. -/
structure Place where
  blk : Nat
  off : Nat
  room : Nat
  val : Value
  foot : Nat → Prop
/-- A function's first values, as a row. -/
def tab (m : Nat) (f : Nat → DV) : Nat → DV := fun j => ((List.range m).map f).getD j .any
theorem tab_lt {m : Nat} {f : Nat → DV} {j : Nat} (h : j < m) : tab m f j = f j := by simp [tab, h]
def LB : Nat := 140737488355328
/-- A value of the view stands for a value; M: the blocks that may still be written. -/
def RepV (M : Nat → Prop) (w : World) : DV → List Place → Value → Prop
  | .any, _, _ => True
  | .nils, _, v => v = .slice none 0 0
  | .int k n, _, v => v = .int k n
  | .bool b, _, v => v = .bool b
  | .str s, _, v => v = .string s
  | .ints l, _, v => ∃ (a : Option Addr) (cap : Nat), v = .slice a l.length cap ∧ l.length ≤ cap ∧ l.length ≤ LB ∧
      ∀ j, j < l.length → ∃ b o, a = some ⟨b, o, none⟩ ∧ ¬ M b ∧ w.cell? ⟨b, o + j, none⟩ = some (.int .i64 (l.getD j 0))
  | .bools l, _, v => ∃ (a : Option Addr) (cap : Nat), v = .slice a l.length cap ∧ l.length ≤ cap ∧ l.length ≤ LB ∧
      ∀ j, j < l.length → ∃ b o, a = some ⟨b, o, none⟩ ∧ ¬ M b ∧ w.cell? ⟨b, o + j, none⟩ = some (.bool (l.getD j false))
  | .sl m n f, _, v => ∃ (a : Option Addr) (cap : Nat), v = .slice a n cap ∧ n ≤ cap ∧ n ≤ LB ∧
      ∀ i j, i < n → j < m → ∃ b o u, a = some ⟨b, o, none⟩ ∧ ¬ M b ∧ w.cell? ⟨b, o + (i * m + j), none⟩ = some u ∧ RepV M w (f i j) [] u
  | .fp m f, _, v => ∃ b o, v = .pointer (some ⟨b, o, none⟩) ∧ ∀ j, j < m → ¬ M b ∧ ∃ u, w.cell? ⟨b, o + j, none⟩ = some u ∧ RepV M w (f j) [] u
  | .agg m f, ρ, v => ∃ cs, v = .agg cs ∧ cs.size = m ∧ ∀ j, j < m → ∃ u, cs[j]? = some u ∧ RepV M w (f j) ρ u
  | .tup m f, ρ, v => ∃ cs, v = .tuple cs ∧ cs.size = m ∧ ∀ j, j < m → ∃ u, cs[j]? = some u ∧ RepV M w (f j) ρ u
  | .ref k j, ρ, v => ∃ p : Place, ρ[k]? = some p ∧ v = .pointer (some ⟨p.blk, p.off + j, none⟩)
  | .msl k m off n, ρ, v => ∃ (p : Place) (cap : Nat), ρ[k]? = some p ∧ v = .slice (some ⟨p.blk, p.off + off * m, none⟩) n cap ∧ n ≤ cap ∧ n ≤ LB ∧ p.off + off * m + cap * m ≤ p.room
  | .mp k m i j, ρ, v => ∃ p : Place, ρ[k]? = some p ∧ v = .pointer (some ⟨p.blk, p.off + (i * m + j), none⟩)
  | .fn g m c, ρ, v => ∃ lb, v = .func (.func g) #[] lb ∧ lb.size = m ∧ ∀ j, j < m → ∃ u, lb[j]? = some u ∧ RepV M w (c j) ρ u
  | .it k, ρ, v => ∃ p : Place, ρ[k]? = some p ∧ v = p.val
  | .yl l, _, v => v = .func (.yield l) #[] #[]
  | .cst u, _, v => v = u ∧ u.oneCell' = true
  | .mri k i, ρ, v => ∃ (p : Place) (vs : Array Value), ρ[k]? = some p ∧ p.val = .tuple vs ∧ vs[i]? = some v
  | .mse k m off n, ρ, v => ∃ (p : Place) (a : Option Addr) (cap : Nat), ρ[k]? = some p ∧ v = .slice a n cap ∧ n ≤ cap ∧ n ≤ LB ∧ (0 < cap → a = some ⟨p.blk, p.off + off * m, none⟩ ∧ p.off + off * m + cap * m ≤ p.room)
theorem tab_rep {M : Nat → Prop} {w : World} {ρ : List Place} {m : Nat} {f : Nat → DV} {j : Nat} {v : Value} (h : j < m) (hr : RepV M w (f j) ρ v) : RepV M w (tab m f j) ρ v := by rw [tab_lt h]; exact hr
/-! ### Maps: sets of keys -/
abbrev KS := List (List Int)
/-- A key. -/
def keyV : List Int → Value
  | [a] => .int .i64 a
  | l => .agg (l.map fun a => .int .i64 a).toArray
theorem keyV_inj : ∀ {a b : List Int}, keyV a = keyV b → a = b := by
  have ai : ∀ {l m : List Int}, (l.map fun a => Value.int .i64 a).toArray = (m.map fun a => Value.int .i64 a).toArray → l = m := fun {l m} h => by
    have h := Array.toList_inj.2 h
    simp only at h
    exact List.map_inj_right (fun x y e => by cases e; rfl) |>.1 h
  intro a b h
  match a, b with
  | [x], [y] => cases h; rfl
  | [], [] => rfl
  | [x], [] => cases h
  | [], [y] => cases h
  | [x], y :: y' :: m => cases h
  | x :: x' :: l, [y] => cases h
  | x :: x' :: l, [] => exact ai (Value.agg.inj h)
  | [], y :: y' :: m => exact ai (Value.agg.inj h)
  | x :: x' :: l, y :: y' :: m => exact ai (Value.agg.inj h)
/-- A block's map holds these keys, each with true. -/
structure MapAt (w : World) (b n : Nat) (l : KS) (es : Array MapEntry) (clock : Nat) : Prop where
  blk : w.heap[b]? = some (.map es clock)
  keys : (es.toList.map (·.key)).Perm (l.map keyV)
  nd : l.Nodup
  len : ∀ y ∈ l, y.length = n
  tru : ∀ e ∈ es.toList, e.val = .bool true
  born : ∀ e ∈ es.toList, e.born < clock
  stamps : (es.toList.map (·.born)).Nodup
theorem MapAt.out {w w' : World} {b n : Nat} {l : KS} {es : Array MapEntry} {clock : Nat} (h : MapAt w b n l es clock) (hb : w'.heap[b]? = w.heap[b]?) : MapAt w' b n l es clock := { h with blk := hb.trans h.blk }
inductive MX where
  | set (n : Nat) (l : KS)
  | sets (n : Nat) (ls : List (Option KS)) (lk : Option (Nat × Nat × Array MapEntry × Nat))
  | mit (n mb : Nat) (es : Array MapEntry) (clock : Nat) (rem : KS) (cur : Option (List Int))
/-- A row of maps; one of them may be locked: it lies so. -/
structure SetsAt (w : World) (p : Place) (n : Nat) (ls : List (Option KS)) (lk : Option (Nat × Nat × Array MapEntry × Nat)) (vs : Array Value) : Prop where
  val : p.val = .tuple vs
  size : vs.size = ls.length
  row : ∃ cs t, w.heap[p.blk]? = some (.cells cs t (0, 0)) ∧ p.off + ls.length ≤ cs.size ∧ p.room ≤ cs.size ∧ ∀ j, j < ls.length → cs[p.off + j]? = vs[j]?
  blk : p.foot p.blk
  has : ∀ (j : Nat) (l : KS), ls[j]? = some (some l) → ∃ b : Nat, vs[j]? = some (Value.map (some b)) ∧ b ≠ p.blk ∧ p.foot b ∧ ∃ es clock, MapAt w b n l es clock ∧ ∀ x, lk = some x → x.1 = j → x.2 = (b, es, clock)
  nil : ∀ (j : Nat), ls[j]? = some none → vs[j]? = some (Value.map none)
  foot : ∀ b, p.foot b → b = p.blk ∨ ∃ (j : Nat) (l : KS), ls[j]? = some (some l) ∧ vs[j]? = some (Value.map (some b))
  inj : ∀ (i j b : Nat), vs[i]? = some (Value.map (some b)) → vs[j]? = some (Value.map (some b)) → i = j
theorem SetsAt.out {w w' : World} {p : Place} {n : Nat} {ls : List (Option KS)} {lk : Option (Nat × Nat × Array MapEntry × Nat)} {vs : Array Value} (h : SetsAt w p n ls lk vs) (hb : ∀ b, p.foot b → b < w.heap.size → w'.heap[b]? = w.heap[b]?) : SetsAt w' p n ls lk vs := by
  have at_ : ∀ {b o}, p.foot b → w.heap[b]? = some o → w'.heap[b]? = some o := fun {b o} hf ho => (hb b hf (Array.getElem?_eq_some_iff.1 ho).1).trans ho
  refine { h with row := ?_, has := fun j l hl => ?_ }
  · obtain ⟨cs, t, h1, h2⟩ := h.row
    exact ⟨cs, t, at_ h.blk h1, h2⟩
  · obtain ⟨b, h1, h2, h3, es, clock, h4, h5⟩ := h.has j l hl
    exact ⟨b, h1, h2, h3, es, clock, { h4 with blk := at_ h3 h4.blk }, h5⟩
def MXRep (w : World) (p : Place) : MX → Prop
  | .set n l => p.val = Value.map (some p.blk) ∧ p.foot = (fun b => b = p.blk) ∧ ∃ es clock, MapAt w p.blk n l es clock
  | .sets n ls lk => ∃ vs, SetsAt w p n ls lk vs
  | .mit n mb es clock rem cur => (∀ x, (x ∈ rem ∨ cur = some x) → x.length = n) ∧ p.val = .pointer (some ⟨p.blk, 0, none⟩) ∧ p.foot = (fun b => b = p.blk) ∧ ∃ seen, w.heap[p.blk]? = some (.mapIter (some mb) clock seen clock) ∧ ((leftOf es seen).toList.map (·.key)).Perm (rem.map keyV) ∧
      ∀ x, cur = some x → ∃ e ∈ es.toList, e.key = keyV x ∧ seen.back? = some e.born
theorem MXRep.out {w w' : World} {p : Place} : ∀ {x : MX}, MXRep w p x → (∀ b, p.foot b → b < w.heap.size → w'.heap[b]? = w.heap[b]?) → MXRep w' p x
  | .set n l, ⟨h1, h2, es, clock, h3⟩, hb => ⟨h1, h2, es, clock, h3.out (hb _ (by rw [h2]) (Array.getElem?_eq_some_iff.1 h3.blk).1)⟩
  | .sets n ls lk, ⟨vs, h⟩, hb => ⟨vs, h.out hb⟩
  | .mit n mb es clock rem cur, ⟨h0, h1, h2, seen, h3, h4⟩, hb => ⟨h0, h1, h2, seen, (hb _ (by rw [h2]) (Array.getElem?_eq_some_iff.1 h3).1).trans h3, h4⟩
inductive DO where
  | cells (l : List DV)
  | ints (l : List Int)
  | bools (l : List Bool)
  | arr (m n : Nat) (f : Nat → Nat → DV)
  | iter (encs : List (Array Value))
  | mo (x : MX)
abbrev DH := List (Option DO)
/-- The blocks of the objects. -/
def MO (h : DH) (ρ : List Place) (b : Nat) : Prop := ∃ (k : Nat) (o : DO) (p : Place), h[k]? = some (some o) ∧ ρ[k]? = some p ∧ p.foot b
def MS (N : Nat → Prop) (h : DH) (ρ : List Place) (b : Nat) : Prop := N b ∨ MO h ρ b
/-- A row of cells that an object has. -/
def RowAt (w : World) (p : Place) (n : Nat) (R : Nat → Value → Prop) : Prop :=
  p.foot = (fun b => b = p.blk) ∧ ∃ cs t, w.heap[p.blk]? = some (.cells cs t (0, 0)) ∧ p.off + n ≤ cs.size ∧ p.room ≤ cs.size ∧ ∀ j, j < n → ∃ u, cs[p.off + j]? = some u ∧ R j u
def ObjRep (P : Program) (M : Nat → Prop) (w : World) (ρ : List Place) (p : Place) : DO → Prop
  | .cells l => RowAt w p l.length fun j u => RepV M w (l.getD j .any) ρ u
  | .ints l => RowAt w p l.length fun j u => u = .int .i64 (l.getD j 0)
  | .bools l => RowAt w p l.length fun j u => u = .bool (l.getD j false)
  | .arr m n f => RowAt w p (n * m) fun j u => RepV M w (f (j / m) (j % m)) [] u
  | .iter encs => ∃ gf lb Rd, (p.val = .func (.func gf) #[] lb ∧ ∀ args W, (callFunc gf args).run P W = .ok (.enter gf args) W) ∧ Iter P gf lb encs p.foot Rd w ∧ (∀ b, Rd b → ¬ M b ∧ b < w.heap.size) ∧ ∀ b, p.foot b → b < w.heap.size
  | .mo x => MXRep w p x
/-- Blocks that objects may have. -/
def heapy : Obj → Bool
  | .cells .. => true
  | .map .. => true
  | .mapIter .. => true
  | _ => false
abbrev Lies (w : World) (b : Nat) : Prop := ∃ (c : Obj) (_ : heapy c = true) (_ : Unit), w.heap[b]? = some c
theorem Lies.cells {w : World} {b : Nat} {c : Array Value} {t : TypeId} {z : Nat × Nat} (h : w.heap[b]? = some (.cells c t z)) : Lies w b := ⟨_, rfl, (), h⟩
/-- What is said of the program's own variables. -/
structure Glo where
  ng : Nat
  gi : World → Prop
  st : ∀ w w', gi w → Upd (fun b => ng ≤ b) w w' → gi w'
  lo : ∀ w, gi w → ng ≤ w.heap.size
structure HRel (P : Program) (Γ : Glo) (N : Nat → Prop) (h : DH) (ρ : List Place) (w : World) : Prop where
  len : ρ.length = h.length
  obj : ∀ (k : Nat) (o : DO), h[k]? = some (some o) → ∃ p : Place, ρ[k]? = some p ∧ ObjRep P (MS N h ρ) w ρ p o
  cel : ∀ (k : Nat) (o : DO) (p : Place) (b : Nat), h[k]? = some (some o) → ρ[k]? = some p → p.foot b → Γ.ng ≤ b ∧ ¬ N b ∧ Lies w b
  dis : ∀ (k k' : Nat) (o o' : DO) (p p' : Place) (b : Nat), k ≠ k' → h[k]? = some (some o) → h[k']? = some (some o') → ρ[k]? = some p → ρ[k']? = some p' → p.foot b → p'.foot b → False
  nlt : ∀ b, N b → b < w.heap.size ∧ Γ.ng ≤ b
  gi : Γ.gi w
structure St where
  fr : List DV
  h : DH
def FrRep (M : Nat → Prop) (w : World) (ρ : List Place) (fr : List DV) (t : Array Value) : Prop :=
  fr.length = t.size ∧ ∀ i, i < fr.length → RepV M w (fr.getD i .any) ρ (t.getD i undef)
structure Rel (P : Program) (Γ : Glo) (N : Nat → Prop) (S : St) (ρ : List Place) (a : Act) (w : World) : Prop where
  hr : HRel P Γ N S.h ρ w
  fr : FrRep (MS N S.h ρ) w ρ S.fr a.tmps
/-- From one state to a later one. -/
structure Step (h : DH) (ρ : List Place) (w : World) (h' : DH) (ρ' : List Place) (w' : World) : Prop where
  upd : Upd (MO h ρ) w w'
  grow : ∀ b, MO h' ρ' b → MO h ρ b ∨ w.heap.size ≤ b
theorem Step.refl (h : DH) (ρ : List Place) (w : World) : Step h ρ w h ρ w := ⟨Upd.refl _ _, fun _ h => .inl h⟩
theorem Step.trans {h h' h'' : DH} {ρ ρ' ρ'' : List Place} {w w' w'' : World} (x : Step h ρ w h' ρ' w') (y : Step h' ρ' w' h'' ρ'' w'') : Step h ρ w h'' ρ'' w'' :=
  ⟨x.upd.comp y.upd fun i hi hm => (x.grow i hm).resolve_right (by omega), fun b hb => (y.grow b hb).elim (fun h => x.grow b h) (fun h => .inr (Nat.le_trans x.upd.size h))⟩
/-- The same, places kept. -/
structure StepP (h : DH) (ρ : List Place) (w : World) (h' : DH) (ρ' : List Place) (w' : World) : Prop where
  st : Step h ρ w h' ρ' w'
  pl : ∀ (k : Nat) (p : Place), ρ[k]? = some p → ρ'[k]? = some p
theorem StepP.refl (h : DH) (ρ : List Place) (w : World) : StepP h ρ w h ρ w := ⟨Step.refl _ _ _, fun _ _ h => h⟩
theorem StepP.trans {h h' h'' : DH} {ρ ρ' ρ'' : List Place} {w w' w'' : World} (x : StepP h ρ w h' ρ' w') (y : StepP h' ρ' w' h'' ρ'' w'') : StepP h ρ w h'' ρ'' w'' :=
  ⟨x.st.trans y.st, fun k p hk => y.pl k p (x.pl k p hk)⟩
/-- What outlives: blocks outside M lie as they lay; M' has no old block that M has not; places are kept. -/
structure Outl (M : Nat → Prop) (w : World) (ρ : List Place) (M' : Nat → Prop) (w' : World) (ρ' : List Place) : Prop where
  blk : ∀ b, b < w.heap.size → ¬ M b → (∃ c t z, w.heap[b]? = some (.cells c t z)) → w'.heap[b]? = w.heap[b]?
  m : ∀ b, M' b → M b ∨ w.heap.size ≤ b
  pl : ∀ (k : Nat) (p : Place), ρ[k]? = some p → ρ'[k]? = some p
theorem cells_of_cell {w : World} {b o : Nat} {u : Value} (h : w.cell? ⟨b, o, none⟩ = some u) : ∃ c t z, w.heap[b]? = some (.cells c t z) := by
  unfold World.cell? at h
  split at h
  · exact ⟨_, _, _, by assumption⟩
  · cases h
theorem Outl.nil {M M' : Nat → Prop} {w w' : World} {ρ ρ' : List Place} (h : Outl M w ρ M' w' ρ') : Outl M w [] M' w' [] := ⟨h.blk, h.m, fun k p hk => by simp at hk⟩
theorem cell_block {w w' : World} {b o : Nat} (h : w'.heap[b]? = w.heap[b]?) : w'.cell? ⟨b, o, none⟩ = w.cell? ⟨b, o, none⟩ := by
  unfold World.cell?; rw [h]
theorem Outl.cell {M M' : Nat → Prop} {w w' : World} {ρ ρ' : List Place} (h : Outl M w ρ M' w' ρ') {b o : Nat} {u : Value} (hM : ¬ M b) (hc : w.cell? ⟨b, o, none⟩ = some u) : w'.cell? ⟨b, o, none⟩ = some u ∧ ¬ M' b := by
  have hlt : b < w.heap.size := World.block_lt_of_cell? w ⟨b, o, none⟩ hc
  exact ⟨(cell_block (h.blk b hlt hM (cells_of_cell hc))).trans hc, fun hm => (h.m b hm).elim hM (by omega)⟩
theorem RepV.out {M M' : Nat → Prop} {w w' : World} : ∀ (d : DV) {ρ ρ' : List Place} {v : Value}, Outl M w ρ M' w' ρ' → RepV M w d ρ v → RepV M' w' d ρ' v := by
  intro d
  induction d with
  | any => intros; trivial
  | nils => intro ρ ρ' v _ h; exact h
  | int k n => intro ρ ρ' v _ h; exact h
  | bool b => intro ρ ρ' v _ h; exact h
  | str s => intro ρ ρ' v _ h; exact h
  | ints l =>
    rintro ρ ρ' v H ⟨a, cap, e, h1, h2, h3⟩
    refine ⟨a, cap, e, h1, h2, fun j hj => ?_⟩
    obtain ⟨b, o, ha, hM, hc⟩ := h3 j hj
    obtain ⟨g1, g2⟩ := H.cell hM hc
    exact ⟨b, o, ha, g2, g1⟩
  | bools l =>
    rintro ρ ρ' v H ⟨a, cap, e, h1, h2, h3⟩
    refine ⟨a, cap, e, h1, h2, fun j hj => ?_⟩
    obtain ⟨b, o, ha, hM, hc⟩ := h3 j hj
    obtain ⟨g1, g2⟩ := H.cell hM hc
    exact ⟨b, o, ha, g2, g1⟩
  | sl m n f ih =>
    rintro ρ ρ' v H ⟨a, cap, e, h1, h2, h3⟩
    refine ⟨a, cap, e, h1, h2, fun i j hi hj => ?_⟩
    obtain ⟨b, o, u, ha, hM, hc, hr⟩ := h3 i j hi hj
    obtain ⟨g1, g2⟩ := H.cell hM hc
    exact ⟨b, o, u, ha, g2, g1, ih i j H.nil hr⟩
  | fp m f ih =>
    rintro ρ ρ' v H ⟨b, o, e, h⟩
    refine ⟨b, o, e, fun j hj => ?_⟩
    obtain ⟨hM, u, hc, hr⟩ := h j hj
    obtain ⟨g1, g2⟩ := H.cell hM hc
    exact ⟨g2, u, g1, ih j H.nil hr⟩
  | agg m f ih =>
    rintro ρ ρ' v H ⟨cs, e, hs, h⟩
    exact ⟨cs, e, hs, fun j hj => let ⟨u, h1, h2⟩ := h j hj; ⟨u, h1, ih j H h2⟩⟩
  | tup m f ih =>
    rintro ρ ρ' v H ⟨cs, e, hs, h⟩
    exact ⟨cs, e, hs, fun j hj => let ⟨u, h1, h2⟩ := h j hj; ⟨u, h1, ih j H h2⟩⟩
  | ref k j => rintro ρ ρ' v H ⟨p, h, e⟩; exact ⟨p, H.pl _ _ h, e⟩
  | msl k m off n => rintro ρ ρ' v H ⟨p, cap, h, r⟩; exact ⟨p, cap, H.pl _ _ h, r⟩
  | mp k m i j => rintro ρ ρ' v H ⟨p, h, e⟩; exact ⟨p, H.pl _ _ h, e⟩
  | fn g m c ih =>
    rintro ρ ρ' v H ⟨cs, e, hs, h⟩
    exact ⟨cs, e, hs, fun j hj => let ⟨u, h1, h2⟩ := h j hj; ⟨u, h1, ih j H h2⟩⟩
  | it k => rintro ρ ρ' v H ⟨p, h, e⟩; exact ⟨p, H.pl _ _ h, e⟩
  | yl l => intro ρ ρ' v _ h; exact h
  | mse k m off n => rintro ρ ρ' v H ⟨p, a, cap, h, r⟩; exact ⟨p, a, cap, H.pl _ _ h, r⟩
  | mri k i => rintro ρ ρ' v H ⟨p, vs, h, r⟩; exact ⟨p, vs, H.pl _ _ h, r⟩
  | cst u => intro ρ ρ' v _ h; exact h
theorem FrRep.out {M M' : Nat → Prop} {w w' : World} {ρ ρ' : List Place} {fr : List DV} {t : Array Value} (h : FrRep M w ρ fr t) (H : Outl M w ρ M' w' ρ') : FrRep M' w' ρ' fr t :=
  ⟨h.1, fun i hi => (h.2 i hi).out _ H⟩
theorem FrRep.at {M : Nat → Prop} {w : World} {ρ : List Place} {fr : List DV} {t : Array Value} (h : FrRep M w ρ fr t) (i : Nat) : RepV M w (fr.getD i .any) ρ (t.getD i undef) := by
  rcases Nat.lt_or_ge i fr.length with hi | hi
  · exact h.2 i hi
  · have : fr.getD i .any = .any := by rw [List.getD_eq_getElem?_getD, List.getElem?_eq_none hi]; rfl
    rw [this]; trivial
/-- Writing a slot. -/
theorem FrRep.set {M : Nat → Prop} {w : World} {ρ : List Place} {fr : List DV} {t : Array Value} (h : FrRep M w ρ fr t) (i : Nat) {d : DV} {v : Value} (hv : RepV M w d ρ v) : FrRep M w ρ (fr.set i d) (t.setIfInBounds i v) := by
  refine ⟨by simp [h.1], fun j hj => ?_⟩
  rw [List.length_set] at hj
  have hj' : j < t.size := by rw [← h.1]; exact hj
  have h0 := h.2 j hj
  simp only [List.getD_eq_getElem?_getD, Array.getD_eq_getD_getElem?, List.getElem?_set, Array.getElem?_setIfInBounds] at h0 ⊢
  by_cases e : i = j
  · subst e; simp [hj, hj', hv]
  · rw [if_neg e, if_neg e]; exact h0
theorem Iter.later {P : Program} {g : Nat} {lb : Array Value} {encs : List (Array Value)} {G0 Rd : Nat → Prop} {w w' : World} (h : Iter P g lb encs G0 Rd w) {S : Nat → Prop} (hu : Upd S w w') (hs : ∀ b, b < w.heap.size → S b → ¬ (G0 b ∨ Rd b)) : Iter P g lb encs G0 Rd w' :=
  fun l J Jx G W h1 h2 h3 => h l J Jx G W h1 h2 (hu.mono (fun i hi hx => hs i hi hx) |>.trans h3)
theorem RowAt.out {w w' : World} {p : Place} {n : Nat} {R R' : Nat → Value → Prop} (h : RowAt w p n R) (hb : w'.heap[p.blk]? = w.heap[p.blk]?) (hR : ∀ j u, j < n → R j u → R' j u) : RowAt w' p n R' := by
  obtain ⟨h1, cs, t, h2, h3, h4, h5⟩ := h
  exact ⟨h1, cs, t, hb.trans h2, h3, h4, fun j hj => let ⟨u, g1, g2⟩ := h5 j hj; ⟨u, g1, hR j u hj g2⟩⟩
theorem RowAt.cell {w : World} {p : Place} {n : Nat} {R : Nat → Value → Prop} (h : RowAt w p n R) {j : Nat} (hj : j < n) : ∃ u, w.cell? ⟨p.blk, p.off + j, none⟩ = some u ∧ R j u := by
  obtain ⟨h1, cs, t, h2, h3, h4, h5⟩ := h
  obtain ⟨u, g1, g2⟩ := h5 j hj
  exact ⟨u, by unfold World.cell?; simp [h2, g1], g2⟩
theorem RowAt.frozen {w : World} {p : Place} {n : Nat} {R : Nat → Value → Prop} (h : RowAt w p n R) (o : Nat) : w.frozen? ⟨p.blk, o, none⟩ = false := by
  obtain ⟨h1, cs, t, h2, _⟩ := h
  unfold World.frozen?; simp [h2]
theorem ObjRep.out {P : Program} {M M' : Nat → Prop} {w w' : World} {ρ ρ' : List Place} {p : Place} {o : DO} (h : ObjRep P M w ρ p o) (H : Outl M w ρ M' w' ρ') {S : Nat → Prop} (hu : Upd S w w') (hS : ∀ b, S b → M b) (hf : ∀ b, b < w.heap.size → p.foot b → ¬ S b) : ObjRep P M' w' ρ' p o := by
  have hb : ∀ {n R}, RowAt w p n R → w'.heap[p.blk]? = w.heap[p.blk]? := fun {n R} hr => by
    obtain ⟨h1, cs, t, h2, _⟩ := hr
    have hlt := (Array.getElem?_eq_some_iff.1 h2).1
    exact hu.block _ hlt (hf _ hlt (by rw [h1]))
  cases o with
  | cells l => exact RowAt.out h (hb h) fun j u _ hr => RepV.out _ H hr
  | ints l => exact RowAt.out h (hb h) fun j u _ hr => hr
  | bools l => exact RowAt.out h (hb h) fun j u _ hr => hr
  | arr m n f => exact RowAt.out h (hb h) fun j u _ hr => RepV.out _ H.nil hr
  | iter encs =>
    obtain ⟨gf, lb, Rd, h1, h2, h3, h4⟩ := h
    refine ⟨gf, lb, Rd, h1, h2.later hu (fun b hb hs hx => ?_), fun b hb => ⟨fun hm => (H.m b hm).elim (h3 b hb).1 (by have := (h3 b hb).2; omega), Nat.lt_of_lt_of_le (h3 b hb).2 hu.size⟩, fun b hb => Nat.lt_of_lt_of_le (h4 b hb) hu.size⟩
    rcases hx with hx | hx
    · exact hf b hb hx hs
    · exact (h3 b hx).1 (hS b hs)
  | mo x => exact MXRep.out h fun b hb hlt => hu.block b hlt (hf b hlt hb)
section
variable {P : Program} {Γ : Glo} {N : Nat → Prop} {h : DH} {ρ : List Place} {w : World}
theorem MO.unset {k : Nat} {b : Nat} (hm : MO (h.set k none) ρ b) : MO h ρ b := by
  obtain ⟨i, o, p, h1, h2, h3⟩ := hm
  rw [List.getElem?_set] at h1
  by_cases e : k = i
  · rw [if_pos e] at h1; split at h1 <;> cases h1
  · rw [if_neg e] at h1; exact ⟨i, o, p, h1, h2, h3⟩
theorem HRel.lt (H : HRel P Γ N h ρ w) {b : Nat} (hb : MS N h ρ b) : b < w.heap.size := by
  rcases hb with hb | ⟨k, o, p, h1, h2, h3⟩
  · exact (H.nlt b hb).1
  · obtain ⟨_, _, c, t, z, h4⟩ := H.cel k o p b h1 h2 h3
    exact (Array.getElem?_eq_some_iff.1 h4).1
theorem HRel.low (H : HRel P Γ N h ρ w) {b : Nat} (hb : MO h ρ b) : Γ.ng ≤ b := by
  obtain ⟨k, o, p, h1, h2, h3⟩ := hb
  exact (H.cel k o p b h1 h2 h3).1
theorem HRel.lt2 (H : HRel P Γ N h ρ w) {b : Nat} (hb : MS N h ρ b) : b < w.heap.size ∧ Γ.ng ≤ b := ⟨H.lt hb, hb.elim (fun h => (H.nlt b h).2) H.low⟩
/-- Everything old lies still. -/
theorem HRel.ext (H : HRel P Γ N h ρ w) {w' : World} (hE : Ext w w') : HRel P Γ N h ρ w' := by
  have O : Outl (MS N h ρ) w ρ (MS N h ρ) w' ρ := ⟨fun b hb _ _ => Below.block hE b hb, fun b h => .inl h, fun _ _ h => h⟩
  refine ⟨H.len, fun k o hk => ?_, fun k o p b h1 h2 h3 => ?_, H.dis, fun b hb => ⟨Nat.lt_of_lt_of_le (H.nlt b hb).1 hE.size, (H.nlt b hb).2⟩, Γ.st _ _ H.gi (Upd.ofExt hE)⟩
  · obtain ⟨p, hp, ho⟩ := H.obj k o hk
    exact ⟨p, hp, ho.out O (S := fun _ => False) (Upd.ofExt hE) (fun _ h => h.elim) (fun _ _ _ h => h)⟩
  · obtain ⟨g1, g2, c, t, z, g3⟩ := H.cel k o p b h1 h2 h3
    exact ⟨g1, g2, c, t, z, (Below.block hE b (Array.getElem?_eq_some_iff.1 g3).1).trans g3⟩
theorem Outl.ext {M : Nat → Prop} {w w' : World} (ρ : List Place) (hE : Ext w w') : Outl M w ρ M w' ρ := ⟨fun b hb _ _ => Below.block hE b hb, fun b h => .inl h, fun _ _ h => h⟩
theorem Step.ext {w w' : World} (hE : Ext w w') : Step h ρ w h ρ w' := ⟨Upd.ofExt hE, fun _ h => .inl h⟩
theorem get_snoc {α : Type} {l : List α} {x y : α} {k : Nat} (hk : (l ++ [x])[k]? = some y) : (k < l.length ∧ l[k]? = some y) ∨ (k = l.length ∧ x = y) := by
  rcases Nat.lt_trichotomy k l.length with hl | hl | hl
  · rw [List.getElem?_append_left hl] at hk; exact .inl ⟨hl, hk⟩
  · subst hl; simp at hk; exact .inr ⟨rfl, hk⟩
  · rw [List.getElem?_append_right (by omega)] at hk
    have : k - l.length ≠ 0 := by omega
    cases e : k - l.length with
    | zero => omega
    | succ m => rw [e] at hk; simp at hk
theorem get_snoc_left {α : Type} {l : List α} {x y : α} {k : Nat} (hk : l[k]? = some y) : (l ++ [x])[k]? = some y := by
  rw [List.getElem?_append_left (List.getElem?_eq_some_iff.1 hk).1]; exact hk
theorem MO.snoc (H : HRel P Γ N h ρ w) {o : DO} {p : Place} {b : Nat} (hb : MO (h ++ [some o]) (ρ ++ [p]) b) : MO h ρ b ∨ p.foot b := by
  obtain ⟨k, o', p', h1, h2, h3⟩ := hb
  rcases get_snoc h1 with ⟨hl, h1⟩ | ⟨hl, h1⟩
  · rcases get_snoc h2 with ⟨_, h2⟩ | ⟨hl2, _⟩
    · exact .inl ⟨k, o', p', h1, h2, h3⟩
    · rw [hl2, H.len] at hl; omega
  · rcases get_snoc h2 with ⟨hl2, _⟩ | ⟨_, h2⟩
    · rw [H.len, ← hl] at hl2; omega
    · subst h2; exact .inr h3
/-- A new object, its blocks new. -/
theorem HRel.snoc (H : HRel P Γ N h ρ w) {w' : World} (hE : Ext w w') {o : DO} {p : Place} (hf : ∀ b, p.foot b → w.heap.size ≤ b ∧ Lies w' b)
    (ho : ObjRep P (MS N (h ++ [some o]) (ρ ++ [p])) w' (ρ ++ [p]) p o) : HRel P Γ N (h ++ [some o]) (ρ ++ [p]) w' := by
  have O : Outl (MS N h ρ) w ρ (MS N (h ++ [some o]) (ρ ++ [p])) w' (ρ ++ [p]) := by
    refine ⟨fun b hb _ _ => Below.block hE b hb, fun b hb => ?_, fun k q hk => get_snoc_left hk⟩
    rcases hb with hb | hb
    · exact .inl (.inl hb)
    · rcases MO.snoc H hb with hb | hb
      · exact .inl (.inr hb)
      · exact .inr (hf b hb).1
  refine ⟨by simp [H.len], fun k o' hk => ?_, fun k o' p' b h1 h2 h3 => ?_, fun k k' o1 o2 p1 p2 b hne h1 h2 h3 h4 h5 h6 => ?_, fun b hb => ⟨Nat.lt_of_lt_of_le (H.nlt b hb).1 hE.size, (H.nlt b hb).2⟩, Γ.st _ _ H.gi (Upd.ofExt hE)⟩
  · rcases get_snoc hk with ⟨hl, hk⟩ | ⟨hl, hk⟩
    · obtain ⟨p', hp, hr⟩ := H.obj k o' hk
      exact ⟨p', get_snoc_left hp, hr.out O (S := fun _ => False) (Upd.ofExt hE) (fun _ h => h.elim) (fun _ _ _ h => h)⟩
    · cases hk
      exact ⟨p, by rw [hl, ← H.len]; simp, ho⟩
  · rcases get_snoc h1 with ⟨hl, h1⟩ | ⟨hl, h1⟩
    · rcases get_snoc h2 with ⟨_, h2⟩ | ⟨hl2, _⟩
      · obtain ⟨g1, g2, c, t, z, g3⟩ := H.cel k o' p' b h1 h2 h3
        exact ⟨g1, g2, c, t, z, (Below.block hE b (Array.getElem?_eq_some_iff.1 g3).1).trans g3⟩
      · rw [hl2, H.len] at hl; omega
    · rcases get_snoc h2 with ⟨hl2, _⟩ | ⟨_, h2⟩
      · rw [H.len, ← hl] at hl2; omega
      · subst h2
        obtain ⟨g1, g2⟩ := hf b h3
        exact ⟨Nat.le_trans (Γ.lo _ H.gi) g1, fun hn => by have := H.nlt b hn; omega, g2⟩
  · have old : ∀ {k : Nat} {o' : DO} {p' : Place}, (h ++ [some o])[k]? = some (some o') → (ρ ++ [p])[k]? = some p' → p'.foot b → k ≠ h.length → b < w.heap.size := by
      intro k o' p' h1 h2 h3 hne
      rcases get_snoc h1 with ⟨hl, h1⟩ | ⟨hl, h1⟩
      · rcases get_snoc h2 with ⟨_, h2⟩ | ⟨hl2, _⟩
        · exact H.lt (.inr ⟨k, o', p', h1, h2, h3⟩)
        · rw [hl2, H.len] at hl; omega
      · exact absurd hl hne
    have new : ∀ {k : Nat} {o' : DO} {p' : Place}, (h ++ [some o])[k]? = some (some o') → (ρ ++ [p])[k]? = some p' → p'.foot b → k = h.length → w.heap.size ≤ b := by
      intro k o' p' h1 h2 h3 he
      rcases get_snoc h2 with ⟨hl2, _⟩ | ⟨_, h2⟩
      · rw [H.len, ← he] at hl2; omega
      · subst h2; exact (hf b h3).1
    by_cases e1 : k = h.length
    · by_cases e2 : k' = h.length
      · exact hne (e1.trans e2.symm)
      · have := new h1 h3 h5 e1; have := old h2 h4 h6 e2; omega
    · by_cases e2 : k' = h.length
      · have := old h1 h3 h5 e1; have := new h2 h4 h6 e2; omega
      · rcases get_snoc h1 with ⟨_, h1⟩ | ⟨hl, _⟩
        · rcases get_snoc h2 with ⟨_, h2⟩ | ⟨hl, _⟩
          · rcases get_snoc h3 with ⟨_, h3⟩ | ⟨hl, _⟩
            · rcases get_snoc h4 with ⟨_, h4⟩ | ⟨hl, _⟩
              · exact H.dis k k' o1 o2 p1 p2 b hne h1 h2 h3 h4 h5 h6
              · rw [H.len] at hl; exact e2 hl
            · rw [H.len] at hl; exact e1 hl
          · exact e2 hl
        · exact e1 hl
theorem Outl.snoc (H : HRel P Γ N h ρ w) {w' : World} (hE : Ext w w') {o : DO} {p : Place} (hf : ∀ b, p.foot b → w.heap.size ≤ b) : Outl (MS N h ρ) w ρ (MS N (h ++ [some o]) (ρ ++ [p])) w' (ρ ++ [p]) := by
  refine ⟨fun b hb _ _ => Below.block hE b hb, fun b hb => ?_, fun k q hk => get_snoc_left hk⟩
  rcases hb with hb | hb
  · exact .inl (.inl hb)
  · rcases MO.snoc H hb with hb | hb
    · exact .inl (.inr hb)
    · exact .inr (hf b hb)
theorem Step.snoc (H : HRel P Γ N h ρ w) {w' : World} (hE : Ext w w') {o : DO} {p : Place} (hf : ∀ b, p.foot b → w.heap.size ≤ b) : Step h ρ w (h ++ [some o]) (ρ ++ [p]) w' :=
  ⟨Upd.ofExt hE, fun b hb => (MO.snoc H hb).imp id (hf b)⟩
/-- An object is written, in its own blocks. -/
theorem MO.set {k : Nat} {o o' : DO} (hk : h[k]? = some (some o)) {b : Nat} : MO (h.set k (some o')) ρ b ↔ MO h ρ b := by
  have hl := (List.getElem?_eq_some_iff.1 hk).1
  constructor
  · rintro ⟨i, o1, p, h1, h2, h3⟩
    rw [List.getElem?_set] at h1
    by_cases e : k = i
    · subst e; exact ⟨k, o, p, hk, h2, h3⟩
    · rw [if_neg e] at h1; exact ⟨i, o1, p, h1, h2, h3⟩
  · rintro ⟨i, o1, p, h1, h2, h3⟩
    by_cases e : k = i
    · subst e; exact ⟨k, o', p, by simp [hl], h2, h3⟩
    · exact ⟨i, o1, p, by rw [List.getElem?_set, if_neg e]; exact h1, h2, h3⟩
theorem MS.set {k : Nat} {o o' : DO} (hk : h[k]? = some (some o)) {b : Nat} : MS N (h.set k (some o')) ρ b ↔ MS N h ρ b := by unfold MS; rw [MO.set hk]
theorem HRel.write (H : HRel P Γ N h ρ w) {w' : World} {k : Nat} {o o' : DO} {p : Place} (hk : h[k]? = some (some o)) (hp : ρ[k]? = some p) (hu : Upd p.foot w w')
    (hc : ∀ b, p.foot b → Lies w' b) (ho : ObjRep P (MS N (h.set k (some o')) ρ) w' ρ p o') : HRel P Γ N (h.set k (some o')) ρ w' := by
  have hl := (List.getElem?_eq_some_iff.1 hk).1
  have hM : ∀ b, p.foot b → MS N h ρ b := fun b hb => .inr ⟨k, o, p, hk, hp, hb⟩
  have O : Outl (MS N h ρ) w ρ (MS N (h.set k (some o')) ρ) w' ρ := ⟨fun b hb hm _ => hu.block b hb fun hx => hm (hM b hx), fun b hb => .inl ((MS.set hk).1 hb), fun _ _ h => h⟩
  have hget : ∀ {i : Nat} {o1 : DO}, i ≠ k → (h.set k (some o'))[i]? = some (some o1) → h[i]? = some (some o1) := fun {i} {o1} hne h1 => by rw [List.getElem?_set, if_neg (Ne.symm hne)] at h1; exact h1
  refine ⟨by simp [H.len], fun i o1 hi => ?_, fun i o1 p1 b h1 h2 h3 => ?_, fun i i' o1 o2 p1 p2 b hne h1 h2 h3 h4 h5 h6 => ?_, fun b hb => ⟨Nat.lt_of_lt_of_le (H.nlt b hb).1 hu.size, (H.nlt b hb).2⟩, Γ.st _ _ H.gi (hu.mono fun b _ hb => (H.cel k o p b hk hp hb).1)⟩
  · by_cases e : i = k
    · subst e
      have : o' = o1 := by simp [hl] at hi; exact hi
      subst this; exact ⟨p, hp, ho⟩
    · obtain ⟨p1, hp1, hr⟩ := H.obj i o1 (hget e hi)
      exact ⟨p1, hp1, hr.out O hu hM fun b _ h1 h2 => H.dis i k o1 o p1 p b e (hget e hi) hk hp1 hp h1 h2⟩
  · by_cases e : i = k
    · subst e
      have : p = p1 := Option.some.inj (hp.symm.trans h2)
      subst this
      obtain ⟨g1, g2, _⟩ := H.cel i o p b hk hp h3
      exact ⟨g1, g2, hc b h3⟩
    · obtain ⟨g1, g2, c, t, z, g3⟩ := H.cel i o1 p1 b (hget e h1) h2 h3
      refine ⟨g1, g2, c, t, z, (hu.block b (Array.getElem?_eq_some_iff.1 g3).1 fun hx => H.dis i k o1 o p1 p b e (hget e h1) hk h2 hp h3 hx).trans g3⟩
  · have old : ∀ {i : Nat} {o1 : DO}, (h.set k (some o'))[i]? = some (some o1) → ∃ o2, h[i]? = some (some o2) := fun {i} {o1} h1 => by
      by_cases e : i = k
      · subst e; exact ⟨o, hk⟩
      · exact ⟨o1, hget e h1⟩
    obtain ⟨q1, g1⟩ := old h1
    obtain ⟨q2, g2⟩ := old h2
    exact H.dis i i' q1 q2 p1 p2 b hne g1 g2 h3 h4 h5 h6
theorem Outl.write (hN : True) {w' : World} {k : Nat} {o o' : DO} {p : Place} (hk : h[k]? = some (some o)) (hp : ρ[k]? = some p) (hu : Upd p.foot w w') : Outl (MS N h ρ) w ρ (MS N (h.set k (some o')) ρ) w' ρ :=
  ⟨fun b hb hm _ => hu.block b hb fun hx => hm (.inr ⟨k, o, p, hk, hp, hx⟩), fun b hb => .inl ((MS.set hk).1 hb), fun _ _ h => h⟩
theorem Step.write {w' : World} {k : Nat} {o o' : DO} {p : Place} (hk : h[k]? = some (some o)) (hp : ρ[k]? = some p) (hu : Upd p.foot w w') : Step h ρ w (h.set k (some o')) ρ w' :=
  ⟨hu.mono fun b _ hb => ⟨k, o, p, hk, hp, hb⟩, fun b hb => .inl ((MO.set hk).1 hb)⟩
end
end Go.Proofs.YtekkngkphejfcaaDoor
namespace Go.Proofs.YtekkngkphejfcaaDoor
open Go.RowKit
def ofV : Value → DV
  | .int k n => .int k n
  | .bool b => .bool b
  | .string s => .str s
  | .slice none 0 0 => .nils
  | v => if v.oneCell' then .cst v else .any
def opd (fr : List DV) : Operand → DV
  | .tmp t => fr.getD t .any
  | .const v => ofV v
  | .global _ => .any
  | .func f => .fn f 0 fun _ => .any
def isAggB (P : Program) (t : TypeId) : Bool := match P.underlying t with
  | some (.struct _) => true
  | some (.array _ _) => true
  | _ => false
def elemB (P : Program) (t : TypeId) (m : Nat) : Bool := match P.underlying t with
  | some (.slice e) => match P.info? e with
    | some i => i.size == m && m != 0
    | none => false
  | _ => false
def oneB (P : Program) (t : TypeId) : Bool := (P.underlying t).isSome && !isAggB P t
def aggB (P : Program) (t : TypeId) (m : Nat) : Bool := isAggB P t && (match P.info? t with | some i => i.size == m | none => false)
def fieldB (P : Program) (s : TypeId) (f : Nat) : Option (Nat × Nat) := match P.underlying s with
  | some (.struct fs) => match fs[f]? with
    | some fd => match P.info? fd.type with
      | some i => if i.size = 0 then none else some (fd.offset, i.size)
      | none => none
    | none => none
  | _ => none
def arrB (P : Program) (t : TypeId) : Option (Nat × Nat) := match P.underlying t with
  | some (.array n e) => match P.info? e with
    | some i => if n ≤ 1 then none else some (n, i.size)
    | none => none
  | _ => none
def intB (P : Program) (t : TypeId) : Option IntKind := match P.underlying t with
  | some (.int k) => some k
  | _ => none
/-- A comparison or a sum of integers. -/
def binI (op : BinOp) (k : IntKind) (a b : Int) : Option (DV × Prop) := match op with
  | .add => some (.int k (k.wrap (a + b)), True)
  | .sub => some (.int k (k.wrap (a - b)), True)
  | .mul => some (.int k (k.wrap (a * b)), True)
  | .and => some (.int k (bits .and k a b), True)
  | .or => some (.int k (bits .or k a b), True)
  | .xor => some (.int k (bits .xor k a b), True)
  | .andNot => some (.int k (bits .andNot k a b), True)
  | .eql => some (.bool (a == b), True)
  | .neq => some (.bool (a != b), True)
  | .lss => some (.bool (decide (a < b)), True)
  | .leq => some (.bool (decide (a ≤ b)), True)
  | .gtr => some (.bool (decide (a > b)), True)
  | .geq => some (.bool (decide (a ≥ b)), True)
  | _ => none
def boolB (P : Program) (t : TypeId) : Nat := match P.underlying t with
  | some .bool => 1
  | some (.slice _) => 2
  | _ => 0
def binD (bt : Nat) (op : BinOp) (x y : DV) : Option (DV × Prop) := match op, x, y with
  | .eql, .bool a, .bool b => if bt = 1 then some (.bool (a == b), True) else none
  | .neq, .bool a, .bool b => if bt = 1 then some (.bool (!(a == b)), True) else none
  | .eql, .ints l, .nils => if bt = 2 then some (.bool false, 0 < l.length) else none
  | .eql, .bools l, .nils => if bt = 2 then some (.bool false, 0 < l.length) else none
  | .neq, .ints l, .nils => if bt = 2 then some (.bool true, 0 < l.length) else none
  | .shl, .int k a, .int _ b => some (.int k (k.wrap (a * 2 ^ b.toNat)), 0 ≤ b ∧ b ≤ k.bits)
  | .shr, .int k a, .int _ b => some (.int k (a / 2 ^ b.toNat), 0 ≤ b ∧ b ≤ k.bits)
  | op, .int k a, .int k' b => if k = k' then binI op k a b else none
  | _, _, _ => none
def loadD (P : Program) (S : St) (t : TypeId) : DV → Option (DV × Prop)
  | .fp m f => if oneB P t then (if m = 0 then none else some (f 0, True)) else if aggB P t m then some (.agg m f, True) else none
  | .ref k j => match S.h[k]? with
    | some (some (.cells l)) => if oneB P t then (if j < l.length then some (l.getD j .any, True) else none)
      else match P.info? t with
        | some i => if isAggB P t && decide (j + i.size ≤ l.length) then some (.agg i.size (tab i.size fun c => l.getD (j + c) .any), True) else none
        | none => none
    | _ => none
  | .mp k m i j => match S.h[k]? with
    | some (some (.ints l)) => if oneB P t && (m == 1) && (j == 0) then some (.int .i64 (l.getD i 0), i < l.length) else none
    | some (some (.bools l)) => if oneB P t && (m == 1) && (j == 0) then some (.bool (l.getD i false), i < l.length) else none
    | some (some (.arr m' n f)) => if oneB P t && (m == m') && decide (j < m) then some (f i j, i < n)
      else if aggB P t m && (m == m') && (j == 0) then some (.agg m (f i), i < n) else none
    | some (some (.mo (.sets _ ls _))) => if oneB P t && (m == 1) && (j == 0) then some (.mri k i, i < ls.length) else none
    | _ => none
  | _ => none
def idxD (P : Program) (t : TypeId) (x : DV) (n : Int) : Option (DV × Prop) := match x with
  | .ints l => if elemB P t 1 then some (.fp 1 (fun _ => .int .i64 (l.getD n.toNat 0)), 0 ≤ n ∧ n < l.length) else none
  | .bools l => if elemB P t 1 then some (.fp 1 (fun _ => .bool (l.getD n.toNat false)), 0 ≤ n ∧ n < l.length) else none
  | .sl m c f => if elemB P t m then some (.fp m (f n.toNat), 0 ≤ n ∧ n < c) else none
  | .msl k m off c => if elemB P t m then some (.mp k m (off + n.toNat) 0, 0 ≤ n ∧ n < c) else none
  | .ref k j => match arrB P t with
    | some (len, sz) => some (.ref k (j + n.toNat * sz), 0 ≤ n ∧ n < len)
    | none => none
  | .mp k m i 0 => match arrB P t with
    | some (len, sz) => if sz = m then some (.mp k m (i + n.toNat) 0, 0 ≤ n ∧ n < len) else none
    | none => none
  | .fp m f => match arrB P t with
    | some (len, sz) => if n.toNat * sz + sz ≤ m then some (.fp sz (tab sz fun j => f (n.toNat * sz + j)), 0 ≤ n ∧ n < len) else none
    | none => none
  | _ => none
def lenD (P : Program) (t : TypeId) (d : DV) : Option (DV × Prop) := match P.underlying t, d with
  | some (.slice _), .nils => some (.int .i64 0, True)
  | some (.slice _), .ints l => some (.int .i64 l.length, True)
  | some (.slice _), .bools l => some (.int .i64 l.length, True)
  | some (.slice _), .sl _ n _ => some (.int .i64 n, True)
  | some (.slice _), .msl _ _ _ n => some (.int .i64 n, True)
  | some .string, .str s => some (.int .i64 s.size, True)
  | _, _ => none
def maxD (x y : DV) : Option (DV × Prop) := match x, y with
  | .int k a, .int _ b => some (.int k (if b > a then b else a), True)
  | _, _ => none
def minD (x y : DV) : Option (DV × Prop) := match x, y with
  | .int k a, .int _ b => some (.int k (if b < a then b else a), True)
  | _, _ => none
def builtD (P : Program) (S : St) (b : Builtin) (args : List Operand) (tys : List TypeId) : Option (DV × Prop) := match b with
  | .len => match args with
    | [x] => match tys with
      | [t] => lenD P t (opd S.fr x)
      | _ => none
    | _ => none
  | .max => match args with
    | [x, y] => maxD (opd S.fr x) (opd S.fr y)
    | _ => none
  | .min => match args with
    | [x, y] => minD (opd S.fr x) (opd S.fr y)
    | _ => none
  | _ => none
def pop (P : Program) (S : St) : Op → Option (DV × Prop)
  | .move x => some (opd S.fr x, True)
  | .assign x => some (opd S.fr x, True)
  | .pick c a b => match opd S.fr c with
    | .bool true => some (opd S.fr a, True)
    | .bool false => some (opd S.fr b, True)
    | _ => none
  | .load t x => loadD P S t (opd S.fr x)
  | .binOp op t x y _ => binD (boolB P t) op (opd S.fr x) (opd S.fr y)
  | .unOp op _ x => match op, opd S.fr x with
    | .not, .bool b => some (.bool !b, True)
    | .neg, .int k n => some (.int k (k.wrap (0 - n)), True)
    | .xor, .int k n => some (.int k (bits .xor k (if k.signed then -1 else k.max) n), True)
    | _, _ => none
  | .convert s d x => match P.underlying s, intB P d, opd S.fr x with
    | some _, some k, .int _ n => some (.int k (k.wrap n), True)
    | _, _, _ => none
  | .nilCheck x => match opd S.fr x with
    | .fp m f => some (.fp m f, True)
    | .ref k j => some (.ref k j, True)
    | .mp k m i j => some (.mp k m i j, True)
    | .fn g m c => some (.fn g m c, True)
    | _ => none
  | .fieldAddr s x f => match fieldB P s f with
    | some (off, sz) => match opd S.fr x with
      | .fp m g => if off + sz ≤ m then some (.fp sz (tab sz fun j => g (off + j)), True) else none
      | .ref k j => some (.ref k (j + off), True)
      | .mp k m i j => some (.mp k m i (j + off), True)
      | _ => none
    | none => none
  | .indexAddr t x i => match opd S.fr i with
    | .int _ n => idxD P t (opd S.fr x) n
    | _ => none
  | .extract x i => match opd S.fr x with
    | .tup m f => if i < m then some (f i, True) else none
    | _ => none
  | .makeFunc (.func g) first c => if first.size = 0 then some (.fn g c.size (tab c.size fun j => opd S.fr (c.getD j (.const undef))), True) else none
  | .call c => match c.callee with
    | .builtin b => builtD P S b c.args.toList c.argTypes.toList
    | _ => none
  | _ => none
section
variable {P : Program} {Γ : Glo} {N : Nat → Prop} {S : St} {ρ : List Place} {a : Act} {w : World}
theorem ofV_rep {M : Nat → Prop} (v : Value) : RepV M w (ofV v) ρ v := by
  unfold ofV
  split
  · rfl
  · rfl
  · rfl
  · rfl
  · split
    · exact ⟨rfl, by assumption⟩
    · trivial
theorem opd_rep (R : Rel P Γ N S ρ a w) (x : Operand) : RepV (MS N S.h ρ) w (opd S.fr x) ρ (a.eval x) := by
  cases x with
  | tmp t => exact R.fr.at t
  | const v => exact ofV_rep v
  | global g => trivial
  | func f => exact ⟨#[], rfl, rfl, fun j hj => absurd hj (Nat.not_lt_zero j)⟩
theorem run_isAgg' {t : TypeId} {d : TypeDesc} (h : P.underlying t = some d) : (isAgg t).run P w = .ok (isAggB P t) w := by
  unfold isAgg isAggB
  rw [Sem.run_bind, run_underlying h]
  simp only [Result.andThen, h]
  cases d <;> rfl
theorem run_sizeOf' {t : TypeId} {i : TypeInfo} (h : P.info? t = some i) : (sizeOf t).run P w = .ok i.size w := by
  rw [run_sizeOf w h]; unfold Program.cellsOf; rw [h]; rfl
theorem run_loadVar_one' {t : TypeId} {b : Addr} {u : Value} (h : oneB P t = true) (hc : w.cell? b = some u) : (loadVar t b).run P w = .ok u w := by
  unfold oneB at h
  simp only [Bool.and_eq_true, Option.isSome_iff_exists, Bool.not_eq_true'] at h
  obtain ⟨⟨d, hd⟩, hn⟩ := h
  unfold loadVar
  rw [Sem.run_bind, run_isAgg' hd]
  simp only [Result.andThen, hn, Bool.false_eq_true, if_false]
  simp [load, Sem.run, hc]
theorem isAggB_some {t : TypeId} (h : isAggB P t = true) : ∃ d, P.underlying t = some d := by
  unfold isAggB at h
  split at h
  · exact ⟨_, by assumption⟩
  · exact ⟨_, by assumption⟩
  · cases h
theorem run_loadVar_agg' {t : TypeId} {b o : Nat} {i : TypeInfo} (h : isAggB P t = true) (hi : P.info? t = some i) (g : Nat → Value) (hc : ∀ j, j < i.size → w.cell? ⟨b, o + j, none⟩ = some (g j)) :
    (loadVar t ⟨b, o, none⟩).run P w = .ok (.agg ((List.range i.size).map g).toArray) w := by
  obtain ⟨d, hd⟩ := isAggB_some h
  unfold loadVar
  rw [Sem.run_bind, run_isAgg' hd]
  simp only [Result.andThen, h, if_true]
  rw [Sem.run_bind, run_sizeOf' hi]
  simp only [Result.andThen]
  rw [Sem.run_bind, run_loadCells w ⟨b, o, none⟩ i.size g (fun j hj => by
    have := hc j hj
    unfold Addr.add
    by_cases e : j = 0
    · subst e; simpa using this
    · simpa [e] using this)]
  simp [Result.andThen]
/-- Cells of blocks that are not foreign lie as they lay. -/
def Keep (N : Nat → Prop) (w W : World) : Prop := ∀ b o u, ¬ N b → w.cell? ⟨b, o, none⟩ = some u → W.cell? ⟨b, o, none⟩ = some u
theorem Keep.ofExt {N : Nat → Prop} {w W : World} (h : Ext w W) : Keep N w W := fun _ _ _ _ hc => h.cell hc
/-- What an operation yields, whatever is made and done to foreign blocks meanwhile. -/
def Yl (P : Program) (N : Nat → Prop) (w : World) (M : Nat → Prop) (ρ : List Place) (s : Sem Value) (d : DV) : Prop := ∃ v, (∀ W, Keep N w W → s.run P W = .ok v W) ∧ RepV M w d ρ v
theorem row_off {k : Nat} {o : DO} {p : Place} {n : Nat} {Rw : Nat → Value → Prop} (R : Rel P Γ N S ρ a w) (hk : S.h[k]? = some (some o)) (hp : ρ[k]? = some p) (hr : RowAt w p n Rw) : ¬ N p.blk := (R.hr.cel k o p p.blk hk hp (by rw [hr.1])).2.1
theorem fp_cell {M : Nat → Prop} {m : Nat} {f : Nat → DV} {v : Value} (h : RepV M w (.fp m f) ρ v) : ∃ b o, v = .pointer (some ⟨b, o, none⟩) ∧ ∀ j, j < m → ¬ M b ∧ ∃ u, w.cell? ⟨b, o + j, none⟩ = some u ∧ RepV M w (f j) [] u := h
theorem rep_nil {M : Nat → Prop} {d : DV} {v : Value} (h : RepV M w d [] v) : RepV M w d ρ v := h.out d ⟨fun _ _ _ _ => rfl, fun _ h => .inl h, fun k p hk => by simp at hk⟩
theorem run_loadAt {t : TypeId} {b : Addr} {W : World} : (Instr.loadAt t (.pointer (some b))).run P W = (loadVar t b).run P W := rfl
theorem load_one {M : Nat → Prop} {t : TypeId} {b o : Nat} {u : Value} {d : DV} (hN : ¬ N b) (h1 : oneB P t = true) (hc : w.cell? ⟨b, o, none⟩ = some u) (hr : RepV M w d ρ u) : Yl P N w M ρ (Instr.loadAt t (.pointer (some ⟨b, o, none⟩))) d :=
  ⟨u, fun W hE => by rw [run_loadAt]; exact run_loadVar_one' h1 (hE _ _ _ hN hc), hr⟩
theorem load_agg {M : Nat → Prop} {t : TypeId} {i : TypeInfo} {b o : Nat} {f : Nat → DV} (hN : 0 < i.size → ¬ N b) (h1 : isAggB P t = true) (hi : P.info? t = some i) (h : ∀ j, j < i.size → ∃ u, w.cell? ⟨b, o + j, none⟩ = some u ∧ RepV M w (f j) ρ u) :
    Yl P N w M ρ (Instr.loadAt t (.pointer (some ⟨b, o, none⟩))) (.agg i.size f) := by
  obtain ⟨g, hg⟩ : ∃ g : Nat → Value, ∀ j, j < i.size → w.cell? ⟨b, o + j, none⟩ = some (g j) ∧ RepV M w (f j) ρ (g j) := by
    refine ⟨fun j => (w.cell? ⟨b, o + j, none⟩).getD undef, fun j hj => ?_⟩
    obtain ⟨u, h1, h2⟩ := h j hj
    simp [h1, h2]
  refine ⟨_, fun W hE => by rw [run_loadAt]; exact run_loadVar_agg' h1 hi g fun j hj => hE _ _ _ (hN (by omega)) (hg j hj).1, _, rfl, by simp, fun j hj => ?_⟩
  exact ⟨g j, by simp [hj], (hg j hj).2⟩
theorem aggB_spec {t : TypeId} {m : Nat} (h : aggB P t m = true) : isAggB P t = true ∧ ∃ i, P.info? t = some i ∧ i.size = m := by
  unfold aggB at h
  simp only [Bool.and_eq_true] at h
  refine ⟨h.1, ?_⟩
  have h2 := h.2
  split at h2
  · exact ⟨_, by assumption, by simpa using h2⟩
  · cases h2
theorem loadD_sound (R : Rel P Γ N S ρ a w) {t : TypeId} {x d : DV} {vc : Prop} {v : Value} (hx : RepV (MS N S.h ρ) w x ρ v) (h : loadD P S t x = some (d, vc)) (hv : vc) :
    Yl P N w (MS N S.h ρ) ρ (Instr.loadAt t v) d := by
  unfold loadD at h
  split at h
  · rename_i m f
    obtain ⟨b, o, rfl, hc⟩ := fp_cell hx
    split at h
    · rename_i h1
      split at h
      · cases h
      · cases h
        obtain ⟨hM, u, g1, g2⟩ := hc 0 (by omega)
        exact load_one (fun h => hM (.inl h)) h1 g1 (rep_nil g2)
    · split at h
      · rename_i h2
        cases h
        obtain ⟨h3, i, hi, rfl⟩ := aggB_spec h2
        exact load_agg (fun hp h => (hc 0 hp).1 (.inl h)) h3 hi fun j hj => let ⟨_, u, g1, g2⟩ := hc j hj; ⟨u, g1, rep_nil g2⟩
      · cases h
  · rename_i k j
    obtain ⟨p, hp, rfl⟩ := hx
    split at h
    · rename_i l hk
      obtain ⟨p', hp', hr⟩ := R.hr.obj k _ hk
      have e : p' = p := Option.some.inj (hp'.symm.trans hp)
      subst e
      split at h
      · rename_i h1
        split at h
        · rename_i hj
          cases h
          obtain ⟨u, g1, g2⟩ := RowAt.cell hr hj
          exact load_one (row_off R hk hp hr) h1 g1 g2
        · cases h
      · split at h
        · rename_i i hi
          split at h
          · rename_i h2
            cases h
            simp only [Bool.and_eq_true, decide_eq_true_eq] at h2
            refine load_agg (fun _ => row_off R hk hp hr) h2.1 hi fun c hc => ?_
            obtain ⟨u, g1, g2⟩ := RowAt.cell hr (j := j + c) (by omega)
            exact ⟨u, by rw [Nat.add_assoc]; exact g1, tab_rep hc g2⟩
          · cases h
        · cases h
    · cases h
  · rename_i k m i j
    obtain ⟨p, hp, rfl⟩ := hx
    split at h
    · rename_i l hk
      obtain ⟨p', hp', hr⟩ := R.hr.obj k _ hk
      have e : p' = p := Option.some.inj (hp'.symm.trans hp)
      subst e
      split at h
      · rename_i h1
        cases h
        simp only [Bool.and_eq_true, beq_iff_eq] at h1
        obtain ⟨⟨h1, rfl⟩, rfl⟩ := h1
        obtain ⟨u, g1, g2⟩ := RowAt.cell hr hv
        exact load_one (row_off R hk hp hr) h1 (by simpa using g1) g2
      · cases h
    · rename_i l hk
      obtain ⟨p', hp', hr⟩ := R.hr.obj k _ hk
      have e : p' = p := Option.some.inj (hp'.symm.trans hp)
      subst e
      split at h
      · rename_i h1
        cases h
        simp only [Bool.and_eq_true, beq_iff_eq] at h1
        obtain ⟨⟨h1, rfl⟩, rfl⟩ := h1
        obtain ⟨u, g1, g2⟩ := RowAt.cell hr hv
        exact load_one (row_off R hk hp hr) h1 (by simpa using g1) g2
      · cases h
    · rename_i m' n f hk
      obtain ⟨p', hp', hr⟩ := R.hr.obj k _ hk
      have e : p' = p := Option.some.inj (hp'.symm.trans hp)
      subst e
      have inb : ∀ {i j : Nat}, i < n → j < m' → i * m' + j < n * m' := fun {i j} hi hj => by
        have : (i + 1) * m' ≤ n * m' := Nat.mul_le_mul_right _ hi
        rw [Nat.succ_mul] at this; omega
      have dv : ∀ {i j : Nat}, j < m' → (i * m' + j) / m' = i ∧ (i * m' + j) % m' = j := fun {i j} hj => by
        have hm : 0 < m' := by omega
        constructor
        · rw [Nat.mul_comm, Nat.mul_add_div hm, Nat.div_eq_of_lt hj, Nat.add_zero]
        · rw [Nat.mul_comm, Nat.mul_add_mod, Nat.mod_eq_of_lt hj]
      split at h
      · rename_i h1
        cases h
        simp only [Bool.and_eq_true, beq_iff_eq, decide_eq_true_eq] at h1
        obtain ⟨⟨h1, rfl⟩, hj⟩ := h1
        obtain ⟨u, g1, g2⟩ := RowAt.cell hr (inb hv hj)
        rw [(dv hj).1, (dv hj).2] at g2
        exact load_one (row_off R hk hp hr) h1 g1 (rep_nil g2)
      · split at h
        · rename_i h2
          cases h
          simp only [Bool.and_eq_true, beq_iff_eq] at h2
          obtain ⟨⟨h2, rfl⟩, rfl⟩ := h2
          obtain ⟨h3, ti, hi, rfl⟩ := aggB_spec h2
          refine load_agg (fun _ => row_off R hk hp hr) h3 hi fun c hc => ?_
          obtain ⟨u, g1, g2⟩ := RowAt.cell hr (inb hv hc)
          rw [(dv hc).1, (dv hc).2] at g2
          exact ⟨u, by simpa [Nat.add_assoc] using g1, rep_nil g2⟩
        · cases h
    · rename_i n ls lk hk
      obtain ⟨p', hp', vs, hS⟩ := R.hr.obj k _ hk
      have e : p' = p := Option.some.inj (hp'.symm.trans hp)
      subst e
      split at h
      · rename_i h1
        cases h
        simp only [Bool.and_eq_true, beq_iff_eq] at h1
        obtain ⟨⟨h1, rfl⟩, rfl⟩ := h1
        obtain ⟨cs, tt, q1, q2, q3, q4⟩ := hS.row
        have hi : i < vs.size := by rw [hS.size]; exact hv
        have q5 := q4 i hv
        rw [Array.getElem?_eq_getElem hi] at q5
        refine load_one (u := vs[i]) (R.hr.cel k _ p' p'.blk hk hp hS.blk).2.1 h1 ?_ ⟨p', vs, hp, hS.val, Array.getElem?_eq_getElem hi⟩
        unfold World.cell?
        simp [q1, q5]
      · cases h
    · cases h
  · cases h
theorem Yl.pure {M : Nat → Prop} {s : Sem Value} {d : DV} {v : Value} (h : ∀ W, s.run P W = .ok v W) (hr : RepV M w d ρ v) : Yl P N w M ρ s d := ⟨v, fun W _ => h W, hr⟩
theorem elemB_spec {t : TypeId} {m : Nat} (h : elemB P t m = true) : P.underlying t = some (.slice (P.elem t)) ∧ (∃ i, P.info? (P.elem t) = some i ∧ i.size = m) ∧ m ≠ 0 := by
  unfold elemB at h
  split at h
  · rename_i e he
    have : P.elem t = e := by unfold Program.elem; rw [he]
    rw [this]
    refine ⟨he, ?_⟩
    split at h
    · simp only [Bool.and_eq_true, beq_iff_eq, bne_iff_ne] at h
      exact ⟨⟨_, by assumption, h.1⟩, h.2⟩
    · cases h
  · cases h
theorem arrB_spec {t : TypeId} {n m : Nat} (h : arrB P t = some (n, m)) : P.underlying t = some (.array (P.arrayLen t) (P.elem t)) ∧ P.arrayLen t = n ∧ ∃ i, P.info? (P.elem t) = some i ∧ i.size = m := by
  unfold arrB at h
  split at h
  · rename_i n' e he
    have h1 : P.elem t = e := by unfold Program.elem; rw [he]
    have h2 : P.arrayLen t = n' := by unfold Program.arrayLen; rw [he]
    rw [h1, h2]
    split at h
    · split at h
      · cases h
      · cases h
        exact ⟨he, rfl, _, by assumption, rfl⟩
    · cases h
  · cases h
theorem add_none (b o n : Nat) : Addr.add ⟨b, o, none⟩ n = ⟨b, o + n, none⟩ := by
  unfold Addr.add
  by_cases h : n = 0
  · subst h; rfl
  · simp [h]
theorem run_idx_slice {t : TypeId} {m b o len cap : Nat} {k : IntKind} {n : Int} (h : elemB P t m = true) (h1 : 0 ≤ n) (h2 : n < len) (W : World) :
    (Instr.indexAt t (.slice (some ⟨b, o, none⟩) len cap) (.int k n)).run P W = .ok (.pointer (some ⟨b, o + n.toNat * m, none⟩)) W := by
  obtain ⟨hu, ⟨i, hi, rfl⟩, _⟩ := elemB_spec h
  rw [run_indexAt_slice W t _ len cap k n hu, if_pos ⟨h1, h2⟩, run_sizeOf' hi]
  simp only [Result.andThen, add_none]
theorem idxD_sound (R : Rel P Γ N S ρ a w) {t : TypeId} {x d : DV} {vc : Prop} {v : Value} {k : IntKind} {n : Int} (hx : RepV (MS N S.h ρ) w x ρ v) (h : idxD P t x n = some (d, vc)) (hv : vc) :
    Yl P N w (MS N S.h ρ) ρ (Instr.indexAt t v (.int k n)) d := by
  unfold idxD at h
  split at h
  · rename_i l
    obtain ⟨ad, cap, rfl, h1, h2, h3⟩ := hx
    split at h
    · rename_i he
      cases h
      obtain ⟨b, o, rfl, hM, hc⟩ := h3 n.toNat (by omega)
      refine Yl.pure (fun W => run_idx_slice he hv.1 hv.2 W) ⟨b, o + n.toNat * 1, rfl, fun j hj => ⟨hM, _, ?_, rfl⟩⟩
      have : j = 0 := by omega
      subst this; simpa using hc
    · cases h
  · rename_i l
    obtain ⟨ad, cap, rfl, h1, h2, h3⟩ := hx
    split at h
    · rename_i he
      cases h
      obtain ⟨b, o, rfl, hM, hc⟩ := h3 n.toNat (by omega)
      refine Yl.pure (fun W => run_idx_slice he hv.1 hv.2 W) ⟨b, o + n.toNat * 1, rfl, fun j hj => ⟨hM, _, ?_, rfl⟩⟩
      have : j = 0 := by omega
      subst this; simpa using hc
    · cases h
  · rename_i m c f
    obtain ⟨ad, cap, rfl, h1, h2, h3⟩ := hx
    split at h
    · rename_i he
      cases h
      have hm := (elemB_spec he).2
      obtain ⟨b, o, u, rfl, hM, hc, hr⟩ := h3 n.toNat 0 (by omega) (by omega)
      refine Yl.pure (fun W => run_idx_slice he hv.1 hv.2 W) ⟨b, o + n.toNat * m, rfl, fun j hj => ?_⟩
      obtain ⟨b', o', u', e, hM', hc', hr'⟩ := h3 n.toNat j (by omega) hj
      cases e
      exact ⟨hM', u', by rw [Nat.add_assoc]; exact hc', hr'⟩
    · cases h
  · rename_i k' m off c
    obtain ⟨p, cap, hp, rfl, h1, h2, h3⟩ := hx
    split at h
    · rename_i he
      cases h
      exact Yl.pure (fun W => run_idx_slice he hv.1 hv.2 W) ⟨p, hp, by rw [Nat.add_assoc, ← Nat.add_mul]; rfl⟩
    · cases h
  · rename_i k' j
    obtain ⟨p, hp, rfl⟩ := hx
    split at h
    · rename_i len sz ha
      cases h
      obtain ⟨hu, hl, i, hi, rfl⟩ := arrB_spec ha
      refine Yl.pure (fun W => ?_) ⟨p, hp, rfl⟩
      rw [run_indexAt_array W t _ k n hu, if_pos ⟨hv.1, by rw [hl]; exact hv.2⟩, run_sizeOf' hi]
      simp only [Result.andThen, add_none, Nat.add_assoc]
    · cases h
  · rename_i k' m i0
    obtain ⟨p, hp, rfl⟩ := hx
    split at h
    · rename_i len sz ha
      split at h
      · rename_i hsz
        subst hsz
        cases h
        obtain ⟨hu, hl, i, hi, rfl⟩ := arrB_spec ha
        refine Yl.pure (fun W => ?_) ⟨p, hp, rfl⟩
        rw [run_indexAt_array W t _ k n hu, if_pos ⟨hv.1, by rw [hl]; exact hv.2⟩, run_sizeOf' hi]
        simp only [Result.andThen, add_none, Nat.add_assoc, Nat.add_mul, Nat.zero_add, Nat.add_zero]
      · cases h
    · cases h
  · rename_i m f
    obtain ⟨b, o, rfl, hc⟩ := fp_cell hx
    split at h
    · rename_i len sz ha
      split at h
      · rename_i hsz
        cases h
        obtain ⟨hu, hl, i, hi, rfl⟩ := arrB_spec ha
        refine Yl.pure (fun W => ?_) ⟨b, o + n.toNat * i.size, rfl, fun j hj => ?_⟩
        · rw [run_indexAt_array W t _ k n hu, if_pos ⟨hv.1, by rw [hl]; exact hv.2⟩, run_sizeOf' hi]
          simp only [Result.andThen, add_none]
        · obtain ⟨hM, u, h1, h2⟩ := hc (n.toNat * i.size + j) (by omega)
          exact ⟨hM, u, by rw [Nat.add_assoc]; exact h1, tab_rep hj h2⟩
      · cases h
    · cases h
  · cases h
theorem run_binI {op : BinOp} {k : IntKind} {x y : Int} {d : DV} {vc : Prop} (t : TypeId) (h : binI op k x y = some (d, vc)) (M : Nat → Prop) : Yl P N w M ρ (binOp op t (.int k x) (.int k y)) d := by
  cases op <;> simp only [binI, Option.some.injEq, Prod.mk.injEq, reduceCtorEq] at h <;> obtain ⟨rfl, -⟩ := h
  · exact Yl.pure (fun W => by rw [binOp_add]; rfl) rfl
  · exact Yl.pure (fun W => by rw [binOp_sub]; rfl) rfl
  · exact Yl.pure (fun W => by rw [binOp_mul]; rfl) rfl
  · exact Yl.pure (fun W => by rw [binOp_and]; rfl) rfl
  · exact Yl.pure (fun W => by rw [binOp_or]; rfl) rfl
  · exact Yl.pure (fun W => by rw [binOp_xor]; rfl) rfl
  · exact Yl.pure (fun W => by rw [binOp_andNot]; rfl) rfl
  · exact Yl.pure (fun W => by rw [binOp_eql]; rfl) rfl
  · exact Yl.pure (fun W => by rw [binOp_neq]; rfl) rfl
  · exact Yl.pure (fun W => by rw [binOp_lss]; rfl) rfl
  · exact Yl.pure (fun W => by rw [binOp_leq]; rfl) rfl
  · exact Yl.pure (fun W => by rw [binOp_gtr]; rfl) rfl
  · exact Yl.pure (fun W => by rw [binOp_geq]; rfl) rfl
theorem eqGuard_int {op : BinOp} {t : TypeId} {x y : Operand} {k : IntKind} {n : Int} {v : Value} : eqGuard op t x y (.int k n) v = pure () := by
  cases op <;> rfl
theorem binD_sound {M : Nat → Prop} {op : BinOp} {t : TypeId} {x y : DV} {vx vy : Value} {d : DV} {vc : Prop} (ox oy : Operand) (hx : RepV M w x ρ vx) (hy : RepV M w y ρ vy) (h : binD (boolB P t) op x y = some (d, vc)) (hv : vc) :
    Yl P N w M ρ (do eqGuard op t ox oy vx vy; binOp op t vx vy) d := by
  have key : ∀ {k k' : IntKind} {n n' : Int}, vx = .int k n → vy = .int k' n' → Yl P N w M ρ (binOp op t (.int k n) (.int k' n')) d → Yl P N w M ρ (do eqGuard op t ox oy vx vy; binOp op t vx vy) d := by
    intro k k' n n' e1 e2 hY
    subst e1; subst e2
    rw [eqGuard_int]
    exact hY
  have hb : boolB P t = 1 → P.underlying t = some .bool := fun h => by
    unfold boolB at h
    split at h
    · assumption
    · cases h
    · cases h
  have hsl : boolB P t = 2 → ∃ e, P.underlying t = some (.slice e) := fun h => by
    unfold boolB at h
    split at h
    · cases h
    · exact ⟨_, by assumption⟩
    · cases h
  have eqn : ∀ {e : TypeId} {a : Addr} {l c : Nat} (W : World), P.underlying t = some (.slice e) → (do eqGuard .eql t ox oy (.slice (some a) l c) (.slice none 0 0); binOp .eql t (.slice (some a) l c) (.slice none 0 0) : Sem Value).run P W = .ok (.bool false) W := by
    intro e a l c W hu
    have h1 : eqGuard .eql t ox oy (.slice (some a) l c) (.slice none 0 0) = pure () := rfl
    rw [h1]
    show (binOp .eql t (.slice (some a) l c) (.slice none 0 0)).run P W = _
    simp only [binOp]
    simp [run_equal_slice_nil W t e (some a) l c hu]
  have nen : ∀ {e : TypeId} {a : Addr} {l c : Nat} (W : World), P.underlying t = some (.slice e) → (do eqGuard .neq t ox oy (.slice (some a) l c) (.slice none 0 0); binOp .neq t (.slice (some a) l c) (.slice none 0 0) : Sem Value).run P W = .ok (.bool true) W := by
    intro e a l c W hu
    have h1 : eqGuard .neq t ox oy (.slice (some a) l c) (.slice none 0 0) = pure () := rfl
    rw [h1]
    show (binOp .neq t (.slice (some a) l c) (.slice none 0 0)).run P W = _
    simp only [binOp]
    simp [run_equal_slice_nil W t e (some a) l c hu]
  unfold binD at h
  split at h
  · split at h
    · rename_i e
      cases h
      have e1 : vx = .bool _ := hx
      have e2 : vy = .bool _ := hy
      subst e1; subst e2
      exact Yl.pure (fun W => run_eql_bool W t _ _ (hb e)) rfl
    · cases h
  · split at h
    · rename_i e
      cases h
      have e1 : vx = .bool _ := hx
      have e2 : vy = .bool _ := hy
      subst e1; subst e2
      exact Yl.pure (fun W => run_neq_bool W t _ _ (hb e)) rfl
    · cases h
  · split at h
    · rename_i e
      cases h
      obtain ⟨e0, he⟩ := hsl e
      obtain ⟨ad, cap, rfl, h1, h2, h3⟩ := hx
      obtain ⟨b, o, rfl, _⟩ := h3 0 hv
      have e2 : vy = .slice none 0 0 := hy
      subst e2
      exact Yl.pure (fun W => eqn W he) rfl
    · cases h
  · split at h
    · rename_i e
      cases h
      obtain ⟨e0, he⟩ := hsl e
      obtain ⟨ad, cap, rfl, h1, h2, h3⟩ := hx
      obtain ⟨b, o, rfl, _⟩ := h3 0 hv
      have e2 : vy = .slice none 0 0 := hy
      subst e2
      exact Yl.pure (fun W => eqn W he) rfl
    · cases h
  · split at h
    · rename_i e
      cases h
      obtain ⟨e0, he⟩ := hsl e
      obtain ⟨ad, cap, rfl, h1, h2, h3⟩ := hx
      obtain ⟨b, o, rfl, _⟩ := h3 0 hv
      have e2 : vy = .slice none 0 0 := hy
      subst e2
      exact Yl.pure (fun W => nen W he) rfl
    · cases h
  · cases h
    refine key hx hy ?_
    exact Yl.pure (fun W => by rw [binOp_shl, shift_shl _ _ _ _ hv.1 hv.2]; rfl) rfl
  · cases h
    refine key hx hy ?_
    exact Yl.pure (fun W => by rw [binOp_shr, shift_shr _ _ _ _ hv.1 hv.2]; rfl) rfl
  · split at h
    · rename_i e
      subst e
      exact key hx hy (run_binI t h M)
    · cases h
  · cases h
theorem execOp_value {ρ' : Operand → Value} {o : Oper} {s : Sem Value} {M : Nat → Prop} {d : DV} (he : execOp ρ' o = (do pure (.value (← s)))) (h : Yl P N w M ρ s d) : ∃ v, (∀ W, Keep N w W → (execOp ρ' o).run P W = .ok (.value v) W) ∧ RepV M w d ρ v := by
  obtain ⟨v, h1, h2⟩ := h
  refine ⟨v, fun W hE => ?_, h2⟩
  rw [he, Sem.run_bind, h1 W hE]
  rfl
theorem fieldB_spec {s : TypeId} {f off sz : Nat} (h : fieldB P s f = some (off, sz)) : ∃ fs fd i, P.underlying s = some (.struct fs) ∧ fs[f]? = some fd ∧ fd.offset = off ∧ P.info? fd.type = some i ∧ i.size = sz ∧ sz ≠ 0 := by
  unfold fieldB at h
  split at h
  · rename_i fs hs
    split at h
    · rename_i fd hf
      split at h
      · rename_i i hi
        split at h
        · cases h
        · cases h
          exact ⟨fs, fd, i, hs, hf, rfl, hi, rfl, by assumption⟩
      · cases h
    · cases h
  · cases h
theorem run_fieldAt' {s : TypeId} {f off sz b o : Nat} (h : fieldB P s f = some (off, sz)) (W : World) : (Instr.fieldAt s (.pointer (some ⟨b, o, none⟩)) f).run P W = .ok (.pointer (some ⟨b, o + off, none⟩)) W := by
  obtain ⟨fs, fd, i, h1, h2, rfl, h4, rfl, h6⟩ := fieldB_spec h
  unfold Instr.fieldAt
  rw [Sem.run_bind, run_underlying h1]
  simp only [Result.andThen, h2, Instr.sureAddr]
  simp only [Sem.run_bind, Sem.run_pure, Result.andThen, fieldPlace, run_sizeOf' h4, if_neg h6, add_none]
theorem intB_spec {t : TypeId} {k : IntKind} (h : intB P t = some k) : P.underlying t = some (.int k) := by
  unfold intB at h
  split at h
  · cases h; assumption
  · cases h
theorem run_len' {t ty : TypeId} {e : TypeId} {ad : Option Addr} {n c : Nat} (h : P.underlying t = some (.slice e)) (W : World) : (Builtin.len_ #[t] ty #[.slice ad n c]).run P W = .ok (.int .i64 n) W := by
  simp [Builtin.len_, run_underlying h, goInt]
theorem run_len_str' {t ty : TypeId} {s : ByteArray} (h : P.underlying t = some .string) (W : World) : (Builtin.len_ #[t] ty #[.string s]).run P W = .ok (.int .i64 s.size) W := by
  simp [Builtin.len_, run_underlying h, goInt]
theorem exec_builtin {M : Nat → Prop} {ρ' : Operand → Value} {o : Oper} {c : Call} {b : Builtin} {d : DV} {s : Sem Value} (ho : o.op = .call c) (hc : c.callee = .builtin b)
    (hb : builtin b c.argTypes o.type (c.args.map fun | .const _ => true | _ => false) (c.args.map ρ') = (do pure (.value (← s)))) (h : Yl P N w M ρ s d) :
    ∃ v, (∀ W, Keep N w W → (execOp ρ' o).run P W = .ok (.value v) W) ∧ RepV M w d ρ v := by
  refine execOp_value (s := s) ?_ h
  rw [← hb]
  unfold execOp
  rw [ho]
  show (resolve ρ' c o.type >>= fun d => invoke d.target d.args) = _
  unfold resolve
  rw [hc]
  rfl
theorem lenD_sound {M : Nat → Prop} {t ty : TypeId} {x d : DV} {vc : Prop} {v : Value} (hx : RepV M w x ρ v) (h : lenD P t x = some (d, vc)) : Yl P N w M ρ (Builtin.len_ #[t] ty #[v]) d := by
  unfold lenD at h
  split at h
  · rename_i e' hu
    cases h; rw [show v = _ from hx]
    exact Yl.pure (fun W => run_len' hu W) rfl
  · rename_i e' l hu
    cases h
    obtain ⟨ad, cap, rfl, _⟩ := hx
    exact Yl.pure (fun W => run_len' hu W) rfl
  · rename_i e' l hu
    cases h
    obtain ⟨ad, cap, rfl, _⟩ := hx
    exact Yl.pure (fun W => run_len' hu W) rfl
  · rename_i e' m n f hu
    cases h
    obtain ⟨ad, cap, rfl, _⟩ := hx
    exact Yl.pure (fun W => run_len' hu W) rfl
  · rename_i e' k m off n hu
    cases h
    obtain ⟨p, cap, _, rfl, _⟩ := hx
    exact Yl.pure (fun W => run_len' hu W) rfl
  · rename_i s hu
    cases h; rw [show v = _ from hx]
    exact Yl.pure (fun W => run_len_str' hu W) rfl
  · cases h
theorem toList_one {α : Type} {l : Array α} {x : α} (h : l.toList = [x]) : l = #[x] := by cases l; simp at h; rw [h]
theorem toList_two {α : Type} {l : Array α} {x y : α} (h : l.toList = [x, y]) : l = #[x, y] := by cases l; simp at h; rw [h]
theorem builtD_sound (R : Rel P Γ N S ρ a w) (o : Oper) {c : Call} {b : Builtin} {d : DV} {vc : Prop} (ho : o.op = .call c) (hc : c.callee = .builtin b) (h : builtD P S b c.args.toList c.argTypes.toList = some (d, vc)) :
    ∃ v, (∀ W, Keep N w W → (execOp a.eval o).run P W = .ok (.value v) W) ∧ RepV (MS N S.h ρ) w d ρ v := by
  have rep := fun x => opd_rep R x
  unfold builtD at h
  split at h
  · split at h
    · rename_i x ha
      split at h
      · rename_i t ht
        exact exec_builtin (s := Builtin.len_ #[t] o.type #[a.eval x]) ho hc (by rw [toList_one ha, toList_one ht]; simp [builtin]) (lenD_sound (rep x) h)
      · cases h
    · cases h
  · split at h
    · rename_i x y ha
      have hx := rep x
      have hy := rep y
      unfold maxD at h
      split at h
      · rename_i k n k' n' e1 e2
        cases h
        rw [e1] at hx
        rw [e2] at hy
        refine exec_builtin (s := Builtin.max_ c.argTypes o.type #[a.eval x, a.eval y]) ho hc (by rw [toList_two ha]; simp [builtin]) ?_
        rw [show a.eval x = _ from hx, show a.eval y = _ from hy]
        exact Yl.pure (fun W => by simp [Builtin.max_, Builtin.max2]) rfl
      · cases h
    · cases h
  · split at h
    · rename_i x y ha
      have hx := rep x
      have hy := rep y
      unfold minD at h
      split at h
      · rename_i k n k' n' e1 e2
        cases h
        rw [e1] at hx
        rw [e2] at hy
        refine exec_builtin (s := Builtin.min_ c.argTypes o.type #[a.eval x, a.eval y]) ho hc (by rw [toList_two ha]; simp [builtin]) ?_
        rw [show a.eval x = _ from hx, show a.eval y = _ from hy]
        exact Yl.pure (fun W => by simp [Builtin.min_, Builtin.min2]) rfl
      · cases h
    · cases h
  · cases h
theorem pop_sound (R : Rel P Γ N S ρ a w) (o : Oper) {d : DV} {vc : Prop} (h : pop P S o.op = some (d, vc)) (hv : vc) :
    ∃ v, (∀ W, Keep N w W → (execOp a.eval o).run P W = .ok (.value v) W) ∧ RepV (MS N S.h ρ) w d ρ v := by
  have rep := fun x => opd_rep R x
  unfold pop at h
  split at h
  · rename_i x ho
    cases h
    exact ⟨a.eval x, fun W _ => by unfold execOp; rw [ho]; rfl, rep x⟩
  · rename_i x ho
    cases h
    exact ⟨a.eval x, fun W _ => by unfold execOp; rw [ho]; rfl, rep x⟩
  · rename_i c x y ho
    have hc := rep c
    split at h
    · rename_i e
      cases h
      rw [e] at hc
      exact ⟨a.eval x, fun W _ => by unfold execOp; rw [ho]; simp only [show a.eval c = .bool true from hc]; rfl, rep x⟩
    · rename_i e
      cases h
      rw [e] at hc
      exact ⟨a.eval y, fun W _ => by unfold execOp; rw [ho]; simp only [show a.eval c = .bool false from hc]; rfl, rep y⟩
    · cases h
  · rename_i t x ho
    exact execOp_value (by unfold execOp; rw [ho]) (loadD_sound R (rep x) h hv)
  · rename_i op t x y t' ho
    exact execOp_value (by unfold execOp; rw [ho]) (binD_sound x y (rep x) (rep y) h hv)
  · rename_i op t x ho
    have hx := rep x
    refine execOp_value (s := Op.unary op (a.eval x)) (by unfold execOp; rw [ho]) ?_
    split at h
    · rename_i b e
      cases h
      rw [e] at hx
      rw [show a.eval x = .bool b from hx]
      exact Yl.pure (fun W => rfl) rfl
    · rename_i k n e
      cases h
      rw [e] at hx
      rw [show a.eval x = .int k n from hx]
      exact Yl.pure (fun W => rfl) rfl
    · rename_i k n e
      cases h
      rw [e] at hx
      rw [show a.eval x = .int k n from hx]
      exact Yl.pure (fun W => rfl) rfl
    · cases h
  · rename_i ts td x ho
    have hx := rep x
    split at h
    · rename_i dd k k' n hs hd e
      cases h
      rw [e] at hx
      refine execOp_value (s := convert ts td (a.eval x)) (by unfold execOp; rw [ho]) ?_
      rw [show a.eval x = .int k' n from hx]
      refine Yl.pure (v := .int k (k.wrap n)) (fun W => ?_) rfl
      simp [convert, run_underlying hs, run_underlying (intB_spec hd), Conv.intToInt]
    · cases h
  · rename_i x ho
    have hx := rep x
    split at h
    · rename_i m f e
      cases h
      rw [e] at hx
      obtain ⟨b, oo, hb, hr⟩ := fp_cell hx
      exact ⟨_, fun W _ => by unfold execOp; rw [ho]; simp only [hb]; rfl, b, oo, rfl, hr⟩
    · rename_i k j e
      cases h
      rw [e] at hx
      obtain ⟨p, hp, hb⟩ := hx
      exact ⟨_, fun W _ => by unfold execOp; rw [ho]; simp only [hb]; rfl, p, hp, rfl⟩
    · rename_i k m i j e
      cases h
      rw [e] at hx
      obtain ⟨p, hp, hb⟩ := hx
      exact ⟨_, fun W _ => by unfold execOp; rw [ho]; simp only [hb]; rfl, p, hp, rfl⟩
    · rename_i g m c e
      cases h
      rw [e] at hx
      obtain ⟨lb, hb, hr⟩ := hx
      exact ⟨_, fun W _ => by unfold execOp; rw [ho]; simp only [hb]; rfl, lb, rfl, hr⟩
    · cases h
  · rename_i st x f ho
    have hx := rep x
    split at h
    · rename_i off sz hf
      refine execOp_value (s := Instr.fieldAt st (a.eval x) f) (by unfold execOp; rw [ho]) ?_
      split at h
      · rename_i m g e
        split at h
        · cases h
          rw [e] at hx
          obtain ⟨b, oo, hb, hr⟩ := fp_cell hx
          rw [hb]
          refine Yl.pure (fun W => run_fieldAt' hf W) ⟨b, _, rfl, fun j hj => ?_⟩
          obtain ⟨g1, u, g2, g3⟩ := hr (off + j) (by omega)
          exact ⟨g1, u, by rw [Nat.add_assoc]; exact g2, tab_rep hj g3⟩
        · cases h
      · rename_i k j e
        cases h
        rw [e] at hx
        obtain ⟨p, hp, hb⟩ := hx
        rw [hb]
        exact Yl.pure (fun W => run_fieldAt' hf W) ⟨p, hp, by rw [Nat.add_assoc]⟩
      · rename_i k m i j e
        cases h
        rw [e] at hx
        obtain ⟨p, hp, hb⟩ := hx
        rw [hb]
        exact Yl.pure (fun W => run_fieldAt' hf W) ⟨p, hp, by rw [Nat.add_assoc, Nat.add_assoc]⟩
      · cases h
    · cases h
  · rename_i t x i ho
    have hi := rep i
    split at h
    · rename_i k n e
      rw [e] at hi
      refine execOp_value (s := Instr.indexAt t (a.eval x) (a.eval i)) (by unfold execOp; rw [ho]) ?_
      rw [show a.eval i = .int k n from hi]
      exact idxD_sound R (rep x) h hv
    · cases h
  · rename_i x i ho
    have hx := rep x
    split at h
    · rename_i m f e
      split at h
      · rename_i hi
        cases h
        rw [e] at hx
        obtain ⟨cs, hb, hs, hr⟩ := hx
        obtain ⟨u, g1, g2⟩ := hr i hi
        refine execOp_value (s := Instr.extract (a.eval x) i) (by unfold execOp; rw [ho]) ?_
        rw [hb]
        exact Yl.pure (fun W => by simp [Instr.extract, g1]) g2
      · cases h
    · cases h
  · rename_i g first c ho
    split at h
    · rename_i hf
      cases h
      refine ⟨.func (.func g) #[] (c.map a.eval), fun W _ => ?_, c.map a.eval, rfl, by simp, fun j hj => ?_⟩
      · unfold execOp; rw [ho]
        have : first = #[] := Array.eq_empty_of_size_eq_zero hf
        subst this; simp [Instr.makeFunc]
      · refine ⟨a.eval (c.getD j (.const undef)), by simp [hj], tab_rep hj (rep _)⟩
    · cases h
  · rename_i c ho
    split at h
    · rename_i b hc
      exact builtD_sound R o ho hc h
    · cases h
  · cases h
end
end Go.Proofs.YtekkngkphejfcaaDoor
namespace Go.Proofs.YtekkngkphejfcaaDoor
open Go.RowKit
def oneC : DV → Bool
  | .any => false
  | .agg .. => false
  | .tup .. => false
  | .it _ => false
  | .yl _ => false
  | .mse .. => false
  | .mri .. => false
  | _ => true
def dcells : DV → Option (List DV)
  | .agg m f => some ((List.range m).map f)
  | .any => none
  | .tup .. => none
  | .it _ => none
  | .yl _ => none
  | .mse .. => none
  | .mri .. => none
  | d => some [d]
/-- Without references. -/
def plainC : DV → Bool
  | .int .. => true
  | .bool _ => true
  | .str _ => true
  | .nils => true
  | .ints _ => true
  | .bools _ => true
  | .sl .. => true
  | _ => false
section
variable {P : Program} {Γ : Glo} {N : Nat → Prop} {S : St} {ρ : List Place} {a : Act} {w : World}
theorem oneC_val {M : Nat → Prop} {d : DV} {v : Value} (h : oneC d = true) (hr : RepV M w d ρ v) : v.oneCell' = true ∧ v.cells = #[v] := by
  have key : (∀ cs, v ≠ .agg cs) → (∀ cs, v ≠ .tuple cs) → v.oneCell' = true ∧ v.cells = #[v] := fun h1 h2 => by
    cases v <;> first | exact ⟨rfl, rfl⟩ | exact absurd rfl (h1 _) | exact absurd rfl (h2 _)
  cases d with
  | any => cases h
  | agg m f => cases h
  | tup m f => cases h
  | nils => exact key (fun cs e => by rw [hr] at e; cases e) (fun cs e => by rw [hr] at e; cases e)
  | int k n => exact key (fun cs e => by rw [hr] at e; cases e) (fun cs e => by rw [hr] at e; cases e)
  | bool b => exact key (fun cs e => by rw [hr] at e; cases e) (fun cs e => by rw [hr] at e; cases e)
  | str s => exact key (fun cs e => by rw [hr] at e; cases e) (fun cs e => by rw [hr] at e; cases e)
  | ints l => obtain ⟨_, _, rfl, _⟩ := hr; exact ⟨rfl, rfl⟩
  | bools l => obtain ⟨_, _, rfl, _⟩ := hr; exact ⟨rfl, rfl⟩
  | sl m n f => obtain ⟨_, _, rfl, _⟩ := hr; exact ⟨rfl, rfl⟩
  | fp m f => obtain ⟨_, _, rfl, _⟩ := hr; exact ⟨rfl, rfl⟩
  | ref k j => obtain ⟨_, _, rfl⟩ := hr; exact ⟨rfl, rfl⟩
  | msl k m off n => obtain ⟨_, _, _, rfl, _⟩ := hr; exact ⟨rfl, rfl⟩
  | mp k m i j => obtain ⟨_, _, rfl⟩ := hr; exact ⟨rfl, rfl⟩
  | fn g m c => obtain ⟨_, rfl, _⟩ := hr; exact ⟨rfl, rfl⟩
  | it k => cases h
  | yl l => cases h
  | mse k m o n => cases h
  | mri k i => cases h
  | cst u => obtain ⟨rfl, hu⟩ := hr; cases v <;> first | exact ⟨rfl, rfl⟩ | (cases hu; done)
theorem dcells_spec {M : Nat → Prop} {d : DV} {v : Value} {l : List DV} (h : dcells d = some l) (hr : RepV M w d ρ v) : v.cells.size = l.length ∧ ∀ j, j < l.length → ∃ u, v.cells[j]? = some u ∧ RepV M w (l.getD j .any) ρ u := by
  have one : oneC d = true → l = [d] → v.cells.size = l.length ∧ ∀ j, j < l.length → ∃ u, v.cells[j]? = some u ∧ RepV M w (l.getD j .any) ρ u := by
    intro h1 h2
    subst h2
    rw [(oneC_val h1 hr).2]
    refine ⟨rfl, fun j hj => ?_⟩
    have : j = 0 := by simpa using hj
    subst this
    exact ⟨v, rfl, hr⟩
  cases d with
  | any => cases h
  | tup m f => cases h
  | it k => cases h
  | yl l => cases h
  | mse k m o n => cases h
  | mri k i => cases h
  | cst u => exact one rfl (Option.some.inj h).symm
  | agg m f =>
    cases h
    obtain ⟨cs, rfl, hs, hc⟩ := hr
    refine ⟨by simpa [Value.cells] using hs, fun j hj => ?_⟩
    have hj' : j < m := by simpa using hj
    obtain ⟨u, h1, h2⟩ := hc j hj'
    exact ⟨u, h1, by simpa [hj'] using h2⟩
  | nils => cases h; exact one rfl rfl
  | int k n => cases h; exact one rfl rfl
  | bool b => cases h; exact one rfl rfl
  | str s => cases h; exact one rfl rfl
  | ints l => cases h; exact one rfl rfl
  | bools l => cases h; exact one rfl rfl
  | sl m n f => cases h; exact one rfl rfl
  | fp m f => cases h; exact one rfl rfl
  | ref k j => cases h; exact one rfl rfl
  | msl k m off n => cases h; exact one rfl rfl
  | mp k m i j => cases h; exact one rfl rfl
  | fn g m c => cases h; exact one rfl rfl
theorem plainC_nil {M : Nat → Prop} {d : DV} {v : Value} (h : plainC d = true) (hr : RepV M w d ρ v) : RepV M w d [] v := by
  cases d <;> first | exact hr | (cases h; done)
/-- What comes of it. -/
structure Got (P : Program) (Γ : Glo) (N : Nat → Prop) (h : DH) (ρ : List Place) (w : World) (ext : Bool) (d : DV) (h' : DH) (v : Value) (w' : World) : Prop where
  ex : ∃ ρ', HRel P Γ N h' ρ' w' ∧ RepV (MS N h' ρ') w' d ρ' v ∧ Step h ρ w h' ρ' w' ∧ (∀ (k : Nat) (p : Place), ρ[k]? = some p → ρ'[k]? = some p)
  ext : ext = true → Ext w w'
/-- An operation does so: it yields a value, or nothing, or enters a function that returns one. -/
def Does (P : Program) (s : Sem Next) (w : World) (G : Value → World → Prop) : Prop :=
  (∃ v w', s.run P w = .ok (.value v) w' ∧ G v w') ∨ (∃ w', s.run P w = .ok .skip w' ∧ G undef w') ∨
  (∃ f args w', s.run P w = .ok (.enter f args) w' ∧ Calls P f args w' fun e w'' => ∃ v, e = .returned v ∧ G v w'')
theorem Does.value {G : Value → World → Prop} {ρ' : Operand → Value} {o : Oper} {s : Sem Value} {v : Value} {w' : World} (he : execOp ρ' o = (do pure (.value (← s)))) (h : s.run P w = .ok v w') (hG : G v w') : Does P (execOp ρ' o) w G :=
  .inl ⟨v, w', by rw [he, Sem.run_bind, h]; rfl, hG⟩
theorem Does.skip {G : Value → World → Prop} {ρ' : Operand → Value} {o : Oper} {s : Sem Unit} {w' : World} (he : execOp ρ' o = (do s; pure .skip)) (h : s.run P w = .ok () w') (hG : G undef w') : Does P (execOp ρ' o) w G :=
  .inr (.inl ⟨w', by rw [he, Sem.run_bind, h]; rfl, hG⟩)
/-- A new row of cells. -/
def newPlace (w : World) (room : Nat) : Place := ⟨w.heap.size, 0, room, undef, fun b => b = w.heap.size⟩
theorem got_new (H : HRel P Γ N S.h ρ w) {cs : Array Value} {t : TypeId} {o : DO} {d : DV} {v : Value} {w1 : World} (hw1 : Ext w w1 ∧ w1.heap.size = w.heap.size)
    (ho : ∀ M ρ', Outl (MS N S.h ρ) w ρ M (w1.alloc (.cells cs t)) ρ' → ObjRep P M (w1.alloc (.cells cs t)) ρ' (newPlace w cs.size) o)
    (hv : ∀ M ρ', ρ'[S.h.length]? = some (newPlace w cs.size) → RepV M (w1.alloc (.cells cs t)) d ρ' v) (ext : Bool) :
    Got P Γ N S.h ρ w ext d (S.h ++ [some o]) v (w1.alloc (.cells cs t)) := by
  have hE : Ext w (w1.alloc (.cells cs t)) := hw1.1.allocR _
  have hf : ∀ b, (newPlace w cs.size).foot b → w.heap.size ≤ b := fun b hb => Nat.le_of_eq (Eq.symm hb)
  have hb : (w1.alloc (.cells cs t)).heap[w.heap.size]? = some (.cells cs t (0, 0)) := by rw [← hw1.2]; exact heap_alloc_new w1 _
  refine ⟨⟨ρ ++ [newPlace w cs.size], H.snoc hE (fun b hx => ⟨hf b hx, .cells (c := cs) (t := t) (z := (0, 0)) (by rw [show b = w.heap.size from hx]; exact hb)⟩) (ho _ _ (Outl.snoc H hE hf)), ?_, Step.snoc H hE hf, fun k p hk => get_snoc_left hk⟩, fun _ => hE⟩
  exact hv _ _ (by rw [← H.len]; simp)
theorem row_new {cs : Array Value} {t : TypeId} {w1 : World} (hs : w1.heap.size = w.heap.size) {n : Nat} {R : Nat → Value → Prop} (hn : n ≤ cs.size) (hR : ∀ j, j < n → ∃ u, cs[j]? = some u ∧ R j u) : RowAt (w1.alloc (.cells cs t)) (newPlace w cs.size) n R := by
  refine ⟨rfl, cs, t, ?_, by simpa [newPlace] using hn, Nat.le_refl _, fun j hj => by simpa [newPlace] using hR j hj⟩
  show (w1.alloc (.cells cs t)).heap[w.heap.size]? = _
  rw [← hs]; exact heap_alloc_new w1 _
theorem box_got (R : Rel P Γ N S ρ a w) {x : Operand} {t : TypeId} {l : List DV} (h : dcells (opd S.fr x) = some l) (o : Oper) (ho : o.op = .box t x) (ext : Bool) :
    Does P (execOp a.eval o) w (Got P Γ N S.h ρ w ext (.ref S.h.length 0) (S.h ++ [some (.cells l)])) := by
  obtain ⟨h1, h2⟩ := dcells_spec h (opd_rep R x)
  refine Does.value (s := Instr.box t (a.eval x)) (by unfold execOp; rw [ho]) (v := .pointer (some ⟨w.heap.size, 0, none⟩)) (w' := w.alloc (.cells (a.eval x).cells t)) ?_ ?_
  · rfl
  · refine got_new (d := .ref S.h.length 0) R.hr ⟨Ext.refl w, rfl⟩ (fun M ρ' O => ?_) (fun M ρ' hp => ⟨_, hp, rfl⟩) ext
    refine row_new rfl (by omega) fun j hj => ?_
    obtain ⟨u, g1, g2⟩ := h2 j hj
    exact ⟨u, g1, g2.out _ O⟩
theorem alloc_got (R : Rel P Γ N S ρ a w) {t : TypeId} {i : TypeInfo} {z : Value} (hi : P.info? t = some i) (hz : i.zero = some z) (o : Oper) (ho : o.op = .alloc t) (ext : Bool) :
    Does P (execOp a.eval o) w (Got P Γ N S.h ρ w ext (.ref S.h.length 0) (S.h ++ [some (.cells (z.cells.toList.map ofV))])) := by
  refine Does.value (s := Instr.alloc t true (.tuple #[])) (by unfold execOp; rw [ho]) (v := .pointer (some ⟨w.heap.size, 0, none⟩)) (w' := w.alloc (.cells z.cells t)) ?_ ?_
  · simp [Instr.alloc, zeroValue, typeInfo, hi, hz, newVar, newRow, newObj]; rfl
  · refine got_new (d := .ref S.h.length 0) R.hr ⟨Ext.refl w, rfl⟩ (fun M ρ' O => ?_) (fun M ρ' hp => ⟨_, hp, rfl⟩) ext
    refine row_new rfl (by simp) fun j hj => ?_
    have hj' : j < z.cells.size := by simpa using hj
    refine ⟨z.cells[j], by simp [hj'], ?_⟩
    have : (z.cells.toList.map ofV).getD j .any = ofV z.cells[j] := by simp [hj']
    rw [this]; exact ofV_rep _
/-- An array of bools becomes a row. -/
def falseB : Value → Bool
  | .bool false => true
  | _ => false
def zboolsB (z : Value) : Bool := decide (2 < z.cells.size) && z.cells.toList.all falseB
theorem alloc_bools_got (R : Rel P Γ N S ρ a w) {t : TypeId} {i : TypeInfo} {z : Value} (hi : P.info? t = some i) (hz : i.zero = some z) (hb : zboolsB z = true) (o : Oper) (ho : o.op = .alloc t) (ext : Bool) :
    Does P (execOp a.eval o) w (Got P Γ N S.h ρ w ext (.mp S.h.length 1 0 0) (S.h ++ [some (.bools (List.replicate z.cells.size false))])) := by
  refine Does.value (s := Instr.alloc t true (.tuple #[])) (by unfold execOp; rw [ho]) (v := .pointer (some ⟨w.heap.size, 0, none⟩)) (w' := w.alloc (.cells z.cells t)) ?_ ?_
  · simp [Instr.alloc, zeroValue, typeInfo, hi, hz, newVar, newRow, newObj]; rfl
  · refine got_new (d := .mp S.h.length 1 0 0) R.hr ⟨Ext.refl w, rfl⟩ (fun M ρ' O => ?_) (fun M ρ' hp => ⟨_, hp, rfl⟩) ext
    refine row_new rfl (by simp) fun j hj => ?_
    have hj' : j < z.cells.size := by simpa using hj
    refine ⟨z.cells[j], by simp [hj'], ?_⟩
    simp only [zboolsB, Bool.and_eq_true, List.all_eq_true] at hb
    have := hb.2 z.cells[j] (by simp)
    unfold falseB at this
    split at this
    · rename_i e; rw [e]; simp [hj']
    · cases this
/-- The kind of a slice's elements: integers, bools, others of so many cells. -/
inductive EK where
  | ints
  | bools
  | gen (m : Nat)
def ekB (P : Program) (t : TypeId) : Option (EK × TypeId × TypeInfo × Value) := match P.underlying t with
  | some (.slice e) => match P.info? e with
    | some i => match i.zero with
      | some z => if i.size = 0 then none else if z.cells.size ≠ i.size then none else match P.underlying e with
        | some (.int .i64) => if i.size = 1 then (match z with | .int .i64 0 => some (.ints, e, i, z) | _ => none) else none
        | some .bool => if i.size = 1 then (match z with | .bool false => some (.bools, e, i, z) | _ => none) else none
        | _ => some (.gen i.size, e, i, z)
      | none => none
    | none => none
  | _ => none
def EK.cells : EK → Nat
  | .ints => 1
  | .bools => 1
  | .gen m => m
theorem ekB_spec {t : TypeId} {k : EK} {e : TypeId} {i : TypeInfo} {z : Value} (h : ekB P t = some (k, e, i, z)) : P.underlying t = some (.slice e) ∧ P.info? e = some i ∧ i.zero = some z ∧ i.size ≠ 0 ∧ z.cells.size = i.size ∧ k.cells = i.size ∧
    (k = .ints → z = .int .i64 0) ∧ (k = .bools → z = .bool false) := by
  unfold ekB at h
  repeat' (split at h)
  all_goals first
    | (cases h; done)
    | skip
  all_goals
    simp only [Option.some.injEq, Prod.mk.injEq] at h
    obtain ⟨rfl, rfl, rfl, rfl⟩ := h
    refine ⟨by assumption, by assumption, by assumption, by assumption, by simp_all, ?_, ?_, ?_⟩
    · simp_all [EK.cells]
    · intro hk; first | rfl | cases hk
    · intro hk; first | rfl | cases hk
theorem getElem_flat {s : Nat} (hs : 0 < s) : ∀ (vs : List Value), (∀ v ∈ vs, v.cells.size = s) → ∀ i j, i < vs.length → j < s → (vs.flatMap fun v => v.cells.toList)[i * s + j]? = (vs[i]?).bind (fun v => v.cells[j]?)
  | [], _, i, j, hi, _ => absurd hi (Nat.not_lt_zero i)
  | v :: vs, hv, i, j, hi, hj => by
    have hvs : v.cells.toList.length = s := by simpa using hv v (by simp)
    rw [List.flatMap_cons]
    cases i with
    | zero => rw [Nat.zero_mul, Nat.zero_add, List.getElem?_append_left (by omega)]; simp
    | succ i =>
      rw [List.getElem?_append_right (by rw [hvs, Nat.succ_mul]; omega), hvs, show (i + 1) * s + j - s = i * s + j by rw [Nat.succ_mul]; omega]
      rw [getElem_flat hs vs (fun v h => hv v (by simp [h])) i j (by simpa using hi) hj]
      simp
def intD : DV → Int
  | .int _ n => n
  | _ => 0
def boolD : DV → Bool
  | .bool b => b
  | _ => false
def isI : DV → Bool
  | .int .i64 _ => true
  | _ => false
def isB : DV → Bool
  | .bool _ => true
  | _ => false
/-- A literal of a slice. -/
def buildD (k : EK) (ds : List DV) : Option DO := match k with
  | .ints => if ds.all isI then some (.ints (ds.map intD)) else none
  | .bools => if ds.all isB then some (.bools (ds.map boolD)) else none
  | .gen m => if ds.all fun d => (match dcells d with | some l => l.length == m && l.all plainC | none => false) then
      some (.arr m ds.length (fun i j => match dcells (ds.getD i .any) with | some l => l.getD j .any | none => .any)) else none
theorem isI_spec {M : Nat → Prop} {d : DV} {v : Value} (h : isI d = true) (hr : RepV M w d ρ v) : v = .int .i64 (intD d) := by
  unfold isI at h
  split at h
  · exact hr
  · cases h
theorem isB_spec {M : Nat → Prop} {d : DV} {v : Value} (h : isB d = true) (hr : RepV M w d ρ v) : v = .bool (boolD d) := by
  unfold isB at h
  split at h
  · exact hr
  · cases h
theorem buildD_row {M : Nat → Prop} {k : EK} {ds : List DV} {o : DO} {vs : List Value} (hk : 0 < k.cells) (h : buildD k ds = some o) (hl : vs.length = ds.length) (hv : ∀ i, i < ds.length → RepV M w (ds.getD i .any) ρ (vs.getD i undef)) :
    (∀ v ∈ vs, v.cells.size = k.cells) ∧ ∀ M' (w' : World) ρ', Outl M w ρ M' w' ρ' → ∀ (cs : Array Value) (t : TypeId) (p : Place), cs.toList = (vs.flatMap fun v => v.cells.toList) → RowAt w' p (ds.length * k.cells) (fun j u => cs[j]? = some u) → ObjRep P M' w' ρ' p o := by
  have one : ∀ {j : Nat}, k.cells = 1 → j < ds.length * k.cells → (∀ v ∈ vs, v.cells.size = k.cells) → ∀ {u}, (vs.flatMap fun v => v.cells.toList)[j]? = some u → (vs[j]?).bind (fun v => v.cells[0]?) = some u := fun {j} h1 hj hs {u} hu => by
    rw [h1] at hj hs
    have := getElem_flat (s := 1) (by omega) vs hs j 0 (by omega) (by omega)
    rw [Nat.mul_one, Nat.add_zero] at this
    rw [← this]; exact hu
  have mem : ∀ v ∈ vs, ∃ i, i < ds.length ∧ v = vs.getD i undef ∧ vs[i]? = some v := fun v hv => by
    obtain ⟨i, hi, rfl⟩ := List.getElem_of_mem hv
    exact ⟨i, by omega, by simp [hi], by simp [hi]⟩
  have dmem : ∀ i, i < ds.length → ds.getD i .any ∈ ds := fun i hi => by simp [hi]
  cases k with
  | ints =>
    simp only [buildD] at h
    split at h
    · rename_i ha
      cases h
      have hI : ∀ i, i < ds.length → vs.getD i undef = .int .i64 (intD (ds.getD i .any)) := fun i hi => isI_spec (List.all_eq_true.1 ha _ (dmem i hi)) (hv i hi)
      have hs : ∀ v ∈ vs, v.cells.size = EK.ints.cells := fun v hvm => by obtain ⟨i, hi, e, _⟩ := mem v hvm; rw [e, hI i hi]; rfl
      refine ⟨hs, fun M' w' ρ' O cs t p hcs hr => ?_⟩
      have hn : ds.length * EK.ints.cells = (ds.map intD).length := by simp [EK.cells]
      rw [hn] at hr
      refine RowAt.out hr rfl fun j u hj hu => ?_
      have hj' : j < ds.length := by simpa using hj
      have h2 := one rfl (by simpa [EK.cells] using hj') hs (u := u) (by rw [← hcs]; simpa using hu)
      rw [List.getElem?_eq_getElem (by omega)] at h2
      have h3 := hI j hj'
      have h4 : vs.getD j undef = vs[j] := by simp [hl, hj']
      rw [h4] at h3
      simp only [Option.bind_some, h3] at h2
      have : u = Value.int .i64 (intD (ds.getD j .any)) := by simpa [Value.cells] using h2.symm
      rw [this]; simp [hj']
    · cases h
  | bools =>
    simp only [buildD] at h
    split at h
    · rename_i ha
      cases h
      have hI : ∀ i, i < ds.length → vs.getD i undef = .bool (boolD (ds.getD i .any)) := fun i hi => isB_spec (List.all_eq_true.1 ha _ (dmem i hi)) (hv i hi)
      have hs : ∀ v ∈ vs, v.cells.size = EK.bools.cells := fun v hvm => by obtain ⟨i, hi, e, _⟩ := mem v hvm; rw [e, hI i hi]; rfl
      refine ⟨hs, fun M' w' ρ' O cs t p hcs hr => ?_⟩
      have hn : ds.length * EK.bools.cells = (ds.map boolD).length := by simp [EK.cells]
      rw [hn] at hr
      refine RowAt.out hr rfl fun j u hj hu => ?_
      have hj' : j < ds.length := by simpa using hj
      have h2 := one rfl (by simpa [EK.cells] using hj') hs (u := u) (by rw [← hcs]; simpa using hu)
      rw [List.getElem?_eq_getElem (by omega)] at h2
      have h3 := hI j hj'
      have h4 : vs.getD j undef = vs[j] := by simp [hl, hj']
      rw [h4] at h3
      simp only [Option.bind_some, h3] at h2
      have : u = Value.bool (boolD (ds.getD j .any)) := by simpa [Value.cells] using h2.symm
      rw [this]; simp [hj']
    · cases h
  | gen m =>
    simp only [buildD] at h
    split at h
    · rename_i ha
      cases h
      have hm : 0 < m := hk
      have hI : ∀ i, i < ds.length → ∃ l, dcells (ds.getD i .any) = some l ∧ l.length = m ∧ (∀ d ∈ l, plainC d = true) := fun i hi => by
        have := List.all_eq_true.1 ha _ (dmem i hi)
        split at this
        · rename_i l hl
          simp only [Bool.and_eq_true, beq_iff_eq] at this
          exact ⟨l, hl, this.1, fun d hd => List.all_eq_true.1 this.2 d hd⟩
        · cases this
      have hs : ∀ v ∈ vs, v.cells.size = (EK.gen m).cells := fun v hvm => by
        obtain ⟨i, hi, e, _⟩ := mem v hvm
        obtain ⟨l, h1, h2, _⟩ := hI i hi
        rw [e, (dcells_spec h1 (hv i hi)).1, h2]; rfl
      refine ⟨hs, fun M' w' ρ' O cs t p hcs hr => ?_⟩
      refine RowAt.out hr rfl fun j u hj hu => ?_
      have hj0 : j < ds.length * m := hj
      have hi : j / m < ds.length := by rw [Nat.div_lt_iff_lt_mul hm]; exact hj0
      have hc : j % m < m := Nat.mod_lt _ hm
      obtain ⟨l, h1, h2, h3⟩ := hI (j / m) hi
      have h4 := getElem_flat (s := m) hm vs hs (j / m) (j % m) (by omega) hc
      rw [show j / m * m + j % m = j by rw [Nat.mul_comm]; exact Nat.div_add_mod j m] at h4
      obtain ⟨_, h5⟩ := dcells_spec h1 (hv (j / m) hi)
      obtain ⟨u', g1, g2⟩ := h5 (j % m) (by omega)
      have h6 : vs.getD (j / m) undef = vs[j / m]'(by omega) := by simp [hl, hi]
      have hlt : j / m < vs.length := by omega
      rw [List.getElem?_eq_getElem hlt] at h4
      rw [h6] at g1
      have : u = u' := by
        have hu' : (vs.flatMap fun v => v.cells.toList)[j]? = some u := by rw [← hcs]; simpa using hu
        rw [h4] at hu'
        simp only [Option.bind_some] at hu'
        rw [g1] at hu'; exact (Option.some.inj hu').symm
      subst this
      simp only [h1]
      refine RepV.out _ O.nil (plainC_nil (h3 _ ?_) g2)
      simp [h2, hc]
    · cases h
theorem row_made {cs : Array Value} {t : TypeId} {w1 : World} (hs : w1.heap.size = w.heap.size) {n : Nat} (hn : cs.size = n) : RowAt (w1.alloc (.cells cs t)) (newPlace w n) n (fun j u => cs[j]? = some u) := by
  subst hn
  exact row_new hs (Nat.le_refl _) fun j hj => ⟨cs[j], by simp [hj], by simp [hj]⟩
/-- The operands of a literal, in order. -/
def denseB (parts : List (Nat × Operand)) (len : Nat) : Bool := parts.map (·.1) == List.range len
theorem denseB_spec {parts : List (Nat × Operand)} {len : Nat} (h : denseB parts len = true) (f : Operand → Value) : parts.length = len ∧ (parts.map fun x => (x.1, f x.2)) = ((parts.map fun x => f x.2).zipIdx 0).map fun x => (x.2, x.1) := by
  simp only [denseB, beq_iff_eq] at h
  have hl : parts.length = len := by have := congrArg List.length h; simpa using this
  refine ⟨hl, List.ext_getElem? fun i => ?_⟩
  by_cases hi : i < parts.length
  · have h1 : parts[i].1 = i := by
      have h2 := congrArg (fun l : List Nat => l[i]?) h
      have h3 : (List.range len)[i]? = some i := List.getElem?_range (by omega)
      simp only [List.getElem?_map, List.getElem?_eq_getElem hi, Option.map_some, h3] at h2
      exact Option.some.inj h2
    simp [hi, h1]
  · rw [List.getElem?_eq_none (by simpa using hi), List.getElem?_eq_none (by simpa using hi)]
theorem buildSlice_got (R : Rel P Γ N S ρ a w) {t : TypeId} {len : Nat} {parts : Array (Nat × Operand)} {k : EK} {e : TypeId} {i : TypeInfo} {z : Value} {ob : DO} (hk : ekB P t = some (k, e, i, z)) (hd : denseB parts.toList len = true) (hlen : len ≤ 65536 ∧ k.cells ≤ 64)
    (hb : buildD k (parts.toList.map fun x => opd S.fr x.2) = some ob) (o : Oper) (ho : o.op = .buildSlice t len parts) (ext : Bool) :
    Does P (execOp a.eval o) w (Got P Γ N S.h ρ w ext (.msl S.h.length k.cells 0 len) (S.h ++ [some ob])) := by
  obtain ⟨hu, hi, hz, h0, hzs, hks, _, _⟩ := ekB_spec hk
  obtain ⟨hpl, hpe⟩ := denseB_spec hd a.eval
  have hlen1 := hlen.1
  have hlen2 := hlen.2
  have hpos : 0 < k.cells := by omega
  obtain ⟨hs, hrow⟩ := buildD_row (w := w) (M := MS N S.h ρ) (ρ := ρ) (vs := parts.toList.map fun x => a.eval x.2) hpos hb (by simp) (fun j hj => by
    have hj' : j < parts.toList.length := by simpa using hj
    have := opd_rep R parts.toList[j].2
    simp only [List.getD_eq_getElem?_getD, List.getElem?_map, List.getElem?_eq_getElem hj', Option.map_some, Option.getD_some]
    exact this)
  have hvl : (parts.toList.map fun x => a.eval x.2).length = len := by simpa using hpl
  have hcl : ((parts.toList.map fun x => a.eval x.2).flatMap fun v => v.cells.toList).toArray.size = len * k.cells := by
    have : ∀ (l : List Value), (∀ v ∈ l, v.cells.size = k.cells) → (l.flatMap fun v => v.cells.toList).length = l.length * k.cells := by
      intro l
      induction l with
      | nil => intro _; simp
      | cons v l ih => intro h; rw [List.flatMap_cons, List.length_append, ih (fun v hv => h v (by simp [hv])), List.length_cons, Nat.succ_mul]; have := h v (by simp); simp [this]; omega
    simp only [List.size_toArray]
    rw [this _ hs, hvl]
  refine Does.value (s := Instr.buildSlice t len (parts.map fun (i, x) => (i, a.eval x))) (by unfold execOp; rw [ho]) (v := .slice (some ⟨w.heap.size, 0, none⟩) len len) (w' := w.alloc (.cells ((parts.toList.map fun x => a.eval x.2).flatMap fun v => v.cells.toList).toArray e)) ?_ ?_
  · have hsmall : ¬ len * i.size > 2 ^ 24 := by
      have : len * i.size ≤ 65536 * 64 := Nat.mul_le_mul hlen1 (by omega)
      omega
    by_cases hl0 : len = 0
    · subst hl0
      have hp : parts = #[] := by
        have : parts.toList = [] := List.eq_nil_of_length_eq_zero hpl
        cases parts; simp at this; simp [this]
      subst hp
      have hr0 : Array.map (fun (x : Nat) => (default : Value)) (Array.range 0) = #[] := by simp [Array.range_zero']
      simp [Instr.buildSlice, run_underlying hu, sizeOf, typeInfo, hi, newRow, Instr.fill, Array.range_zero']
    · have hp0 : ¬ len * i.size = 0 := by rw [Nat.mul_eq_zero]; omega
      refine run_buildSlice w t e len _ _ i z hu hi hz hsmall hp0 ?_
      have e1 : (parts.map fun (i, x) => (i, a.eval x)).toList = parts.toList.map fun x => (x.1, a.eval x.2) := by simp
      rw [e1, hpe]
      exact Great.fill_whole (s := i.size) (by omega) _ _ (fun v hv => by rw [hs v hv, hks]) (by rw [hvl, Array.size_map, Array.size_range])
  · have := got_new (d := .msl S.h.length k.cells 0 len) (o := ob) (v := .slice (some ⟨w.heap.size, 0, none⟩) len len) (cs := ((parts.toList.map fun x => a.eval x.2).flatMap fun v => v.cells.toList).toArray) (t := e) R.hr ⟨Ext.refl w, rfl⟩
      (fun M ρ' O => hrow _ _ _ O ((parts.toList.map fun x => a.eval x.2).flatMap fun v => v.cells.toList).toArray e _ rfl (by rw [hcl, List.length_map, hpl]; exact row_made (w := w) (w1 := w) (t := e) rfl hcl))
      (fun M ρ' hp => ⟨_, len, hp, by simp [newPlace], Nat.le_refl _, by unfold LB; omega, by simp only [newPlace]; rw [hcl]; omega⟩) ext
    exact this
def makeD (k : EK) (n : Nat) (z : Value) : DO := match k with
  | .ints => .ints (List.replicate n 0)
  | .bools => .bools (List.replicate n false)
  | .gen m => .arr m n (fun _ j => (z.cells.toList.map ofV).getD j .any)
theorem makeSlice_got (R : Rel P Γ N S ρ a w) {t : TypeId} {x y : Operand} {k : EK} {e : TypeId} {i : TypeInfo} {z : Value} {kx ky : IntKind} {n : Int} (hk : ekB P t = some (k, e, i, z)) (hx : opd S.fr x = .int kx n) (hy : opd S.fr y = .int ky n)
    (hn : 0 ≤ n ∧ n ≤ 1000000000000) (hby : i.bytes ≤ 128) (o : Oper) (ho : o.op = .makeSlice t x y) (ext : Bool) :
    Does P (execOp a.eval o) w (Got P Γ N S.h ρ w ext (.msl S.h.length k.cells 0 n.toNat) (S.h ++ [some (makeD k n.toNat z)])) := by
  obtain ⟨hu, hi, hz, h0, hzs, hks, hzi, hzb⟩ := ekB_spec hk
  have hn1 := hn.1
  have hn2 := hn.2
  have rx := opd_rep R x
  have ry := opd_rep R y
  rw [hx] at rx
  rw [hy] at ry
  have hcs : (madeCells z.cells (n.toNat * i.size)).size = n.toNat * k.cells := by rw [size_madeCells, hks]
  refine Does.value (s := Instr.makeSlice t (a.eval x) (a.eval y)) (by unfold execOp; rw [ho]) (v := .slice (some ⟨w.heap.size, 0, none⟩) n.toNat n.toNat) (w' := w.alloc (.cells (madeCells z.cells (n.toNat * i.size)) e)) ?_ ?_
  · rw [show a.eval x = _ from rx, show a.eval y = _ from ry]
    refine run_make w t e i z hu hi hz kx ky n n hn1 (Int.le_refl _) ?_ (by omega)
    have : (i.bytes : Int) * n ≤ 128 * 1000000000000 := Int.mul_le_mul (by omega) hn2 hn1 (by omega)
    omega
  · refine got_new (d := .msl S.h.length k.cells 0 n.toNat) R.hr ⟨Ext.refl w, rfl⟩ (fun M ρ' O => ?_) (fun M ρ' hp => ⟨_, n.toNat, hp, by simp [newPlace], Nat.le_refl _, by unfold LB; omega, by simp only [newPlace]; rw [hcs]; omega⟩) ext
    have hr := row_made (w := w) (w1 := w) (t := e) rfl hcs
    rw [hcs]
    have hcell : ∀ j u, j < n.toNat * k.cells → (madeCells z.cells (n.toNat * i.size))[j]? = some u → z.cells[j % z.cells.size]? = some u := by
      intro j u hj hu'
      have hlt : j % z.cells.size < z.cells.size := Nat.mod_lt _ (by omega)
      simp only [madeCells] at hu'
      have hj' : j < n.toNat * i.size := by rw [← hks]; exact hj
      simp [hj'] at hu'
      rw [← hu']
      simp [hlt]
    cases k with
    | ints =>
      have hz1 := hzi rfl
      subst hz1
      show RowAt _ _ (List.replicate n.toNat (0 : Int)).length _
      rw [List.length_replicate]
      simp only [EK.cells, Nat.mul_one] at hr hcell ⊢
      refine RowAt.out hr rfl fun j u hj hu' => ?_
      have := hcell j u hj hu'
      have e1 : j % (Value.cells (.int .i64 0)).size = 0 := by simp [Value.cells, Nat.mod_one]
      rw [e1] at this
      simp [Value.cells] at this
      rw [← this]; simp [hj]
    | bools =>
      have hz1 := hzb rfl
      subst hz1
      show RowAt _ _ (List.replicate n.toNat false).length _
      rw [List.length_replicate]
      simp only [EK.cells, Nat.mul_one] at hr hcell ⊢
      refine RowAt.out hr rfl fun j u hj hu' => ?_
      have := hcell j u hj hu'
      have e1 : j % (Value.cells (.bool false)).size = 0 := by simp [Value.cells, Nat.mod_one]
      rw [e1] at this
      simp [Value.cells] at this
      rw [← this]; simp [hj]
    | gen m =>
      refine RowAt.out hr rfl fun j u hj hu' => ?_
      have h1 := hcell j u hj hu'
      have hm : m = z.cells.size := by rw [hzs]; exact hks
      have h2 : j % m < z.cells.toList.length := by rw [hm]; simpa using Nat.mod_lt _ (by omega)
      have h3 : (z.cells.toList.map ofV).getD (j % m) .any = ofV u := by
        rw [List.getD_eq_getElem?_getD, List.getElem?_map]
        have : z.cells.toList[j % m]? = some u := by rw [← h1, hm]; simp
        rw [this]; rfl
      show RepV M _ ((z.cells.toList.map ofV).getD (j % m) .any) [] u
      rw [h3]; exact ofV_rep u
end
end Go.Proofs.YtekkngkphejfcaaDoor
namespace Go.Proofs.YtekkngkphejfcaaDoor
open Go.RowKit
section
variable {P : Program} {Γ : Glo} {N : Nat → Prop} {S : St} {ρ : List Place} {a : Act} {w : World} {h : DH}
theorem heap_setCells (b : Nat) (t : TypeId) (z : Nat × Nat) : ∀ (vs : List Value) (o : Nat) (w : World) (cur : Array Value), w.heap[b]? = some (.cells cur t z) → o + vs.length ≤ cur.size →
    ∃ cur', (w.setCells b o vs).heap[b]? = some (.cells cur' t z) ∧ cur'.size = cur.size ∧ ∀ k, cur'[k]? = if o ≤ k ∧ k < o + vs.length then vs[k - o]? else cur[k]?
  | [], o, w, cur, hb, _ => ⟨cur, hb, rfl, fun k => by rw [if_neg]; simp only [List.length_nil]; omega⟩
  | v :: vs, o, w, cur, hb, hl => by
    have hl' : o + (vs.length + 1) ≤ cur.size := hl
    obtain ⟨cur', h1, h2, h3⟩ := heap_setCells b t z vs (o + 1) (w.setCell ⟨b, o, none⟩ v) (cur.setIfInBounds o v) (by simp [World.setCell, Array.getElem?_modify, hb]) (by simp; omega)
    refine ⟨cur', h1, by simpa using h2, fun k => ?_⟩
    rw [h3 k, List.length_cons]
    by_cases e : k = o
    · subst e
      rw [if_neg (by omega), if_pos (by omega), Array.getElem?_setIfInBounds, if_pos rfl, if_pos (by omega), Nat.sub_self]
      rfl
    · by_cases e2 : o + 1 ≤ k ∧ k < o + 1 + vs.length
      · rw [if_pos e2, if_pos (by omega), show k - o = (k - (o + 1)) + 1 by omega]; simp
      · rw [if_neg e2, if_neg (by omega)]
        rw [Array.getElem?_setIfInBounds, if_neg (by omega)]
theorem upd_setCells (b : Nat) : ∀ (vs : List Value) (o : Nat) (w : World), Upd (fun k => k = b) w (w.setCells b o vs)
  | [], _, w => Upd.refl _ w
  | v :: vs, o, w => ((Upd.refl (fun k => k = b) w).setCell (p := ⟨b, o, none⟩) (fun _ => rfl) v).trans (upd_setCells b vs (o + 1) (w.setCell ⟨b, o, none⟩ v))
theorem RowAt.writes {p : Place} {n : Nat} {R R' : Nat → Value → Prop} (hr : RowAt w p n R) {o : Nat} {vs : List Value} (hl : o + vs.length ≤ n) (h1 : ∀ i v, vs[i]? = some v → R' (o + i) v)
    (h2 : ∀ i u, i < n → (i < o ∨ o + vs.length ≤ i) → R i u → R' i u) : RowAt (w.setCells p.blk (p.off + o) vs) p n R' := by
  obtain ⟨g1, cs, t, g2, g3, g4, g5⟩ := hr
  obtain ⟨cs', e1, e2, e3⟩ := heap_setCells p.blk t (0, 0) vs (p.off + o) w cs g2 (by omega)
  refine ⟨g1, cs', t, e1, by omega, by omega, fun j hj => ?_⟩
  rw [e3]
  by_cases e : p.off + o ≤ p.off + j ∧ p.off + j < p.off + o + vs.length
  · rw [if_pos e]
    have hi : p.off + j - (p.off + o) < vs.length := by omega
    refine ⟨vs[p.off + j - (p.off + o)], by simp [hi], ?_⟩
    have := h1 (p.off + j - (p.off + o)) _ (by simp [hi] : vs[p.off + j - (p.off + o)]? = some vs[p.off + j - (p.off + o)])
    rwa [show o + (p.off + j - (p.off + o)) = j by omega] at this
  · rw [if_neg e]
    obtain ⟨u, e4, e5⟩ := g5 j hj
    exact ⟨u, e4, h2 j u hj (by omega) e5⟩
/-- Cells put over others. -/
def splice (l : List DV) (o : Nat) (ds : List DV) : List DV := (ds.zipIdx).foldl (fun cs x => cs.set (o + x.2) x.1) l
theorem splice_go : ∀ (ds : List DV) (k o : Nat) (l : List DV), ((ds.zipIdx k).foldl (fun cs x => cs.set (o + x.2) x.1) l).length = l.length ∧
    ∀ j, j < l.length → ((ds.zipIdx k).foldl (fun cs x => cs.set (o + x.2) x.1) l).getD j .any = if o + k ≤ j ∧ j < o + k + ds.length then ds.getD (j - (o + k)) .any else l.getD j .any
  | [], k, o, l => ⟨rfl, fun j _ => by rw [if_neg]; · rfl
                                       · simp only [List.length_nil]; omega⟩
  | d :: ds, k, o, l => by
    obtain ⟨h1, h2⟩ := splice_go ds (k + 1) o (l.set (o + k) d)
    rw [List.zipIdx_cons, List.foldl_cons]
    refine ⟨by rw [h1]; simp, fun j hj => ?_⟩
    rw [h2 j (by simpa using hj), List.length_cons]
    by_cases e : j = o + k
    · subst e
      rw [if_neg (by omega), if_pos (by omega)]
      simp [hj]
    · by_cases e2 : o + (k + 1) ≤ j ∧ j < o + (k + 1) + ds.length
      · rw [if_pos e2, if_pos (by omega), show j - (o + k) = (j - (o + (k + 1))) + 1 by omega]; simp
      · rw [if_neg e2, if_neg (by omega)]
        simp only [List.getD_eq_getElem?_getD, List.getElem?_set]
        rw [if_neg (by omega)]
theorem splice_length (l : List DV) (o : Nat) (ds : List DV) : (splice l o ds).length = l.length := (splice_go ds 0 o l).1
theorem splice_get (l : List DV) (o : Nat) (ds : List DV) {j : Nat} (hj : j < l.length) : (splice l o ds).getD j .any = if o ≤ j ∧ j < o + ds.length then ds.getD (j - o) .any else l.getD j .any := by
  have := (splice_go ds 0 o l).2 j hj
  simpa [splice] using this
/-- What a store does. -/
def storeD (P : Program) (S : St) (t : TypeId) (x d : DV) : Option (DH × Prop) := match x with
  | .ref k j => match S.h[k]? with
    | some (some (.cells l)) => match dcells d with
      | some ds => if P.info? t |>.any (fun i => i.size == ds.length) then (if ds.all oneC && decide (j + ds.length ≤ l.length) then some (S.h.set k (some (.cells (splice l j ds))), True) else none) else none
      | none => none
    | _ => none
  | .mp k m i j => if P.info? t |>.any (fun i => i.size == 1) then match S.h[k]? with
    | some (some (.ints l)) => match d with
      | .int .i64 n => if m == 1 && j == 0 then some (S.h.set k (some (.ints (l.set i n))), i < l.length) else none
      | _ => none
    | some (some (.bools l)) => match d with
      | .bool b => if m == 1 && j == 0 then some (S.h.set k (some (.bools (l.set i b))), i < l.length) else none
      | _ => none
    | some (some (.arr m' n f)) => if plainC d && (m == m') && decide (j < m) then some (S.h.set k (some (.arr m n (fun i' j' => if i' = i ∧ j' = j then d else f i' j'))), i < n) else none
    | _ => none
    else none
  | _ => none
theorem plainC_one {d : DV} (h : plainC d = true) : oneC d = true := by cases d <;> first | rfl | cases h
theorem run_storeAt' {t : TypeId} {i : TypeInfo} {b o : Nat} {v : Value} (hi : P.info? t = some i) (hs : v.cells.size = i.size) (hc : ∀ j, j < v.cells.size → (w.cell? ⟨b, o + j, none⟩).isSome = true) (hf : ∀ j, w.frozen? ⟨b, j, none⟩ = false) (h1 : ∀ u ∈ v.cells.toList, u.oneCell' = true) :
    (Instr.storeAt t (.pointer (some ⟨b, o, none⟩)) v).run P w = .ok () (w.setCells b o v.cells.toList) := by
  have hst := run_storeCells_cells (P := P) b o v.cells.toList 0 w (by simpa using hc) (by simpa using fun j _ => hf _) h1
  simp only [Nat.add_zero] at hst
  simp [Instr.storeAt, Instr.sureAddr, storeVar, run_sizeOf' hi, hs, hst]
theorem get_some {α : Type} {l : List α} {i : Nat} {x d : α} (h : l[i]? = some x) : l.getD i d = x := by rw [List.getD_eq_getElem?_getD, h]; rfl
/-- A write into an object's row, by cells. -/
theorem store_got (R : Rel P Γ N S ρ a w) {k : Nat} {ob ob' : DO} {p : Place} (hk : S.h[k]? = some (some ob)) (hp : ρ[k]? = some p) {n : Nat} {Rw : Nat → Value → Prop} (hr : RowAt w p n Rw) {o' : Nat} {v : Value} {t : TypeId} {i : TypeInfo}
    (hi : P.info? t = some i) (hs : v.cells.size = i.size) (hl : o' + v.cells.size ≤ n) (h1 : ∀ u ∈ v.cells.toList, u.oneCell' = true)
    (hnew : ∀ M ρ' w', Outl (MS N S.h ρ) w ρ M w' ρ' → w' = w.setCells p.blk (p.off + o') v.cells.toList → ObjRep P M w' ρ' p ob')
    (o : Oper) (tx x : Operand) (ho : o.op = .store t tx x) (hx : a.eval tx = .pointer (some ⟨p.blk, p.off + o', none⟩)) (hv : a.eval x = v) :
    Does P (execOp a.eval o) w (Got P Γ N S.h ρ w false .any (S.h.set k (some ob'))) := by
  have hfoot : p.foot = fun b => b = p.blk := hr.1
  have hu : Upd p.foot w (w.setCells p.blk (p.off + o') v.cells.toList) := by rw [hfoot]; exact upd_setCells _ _ _ _
  refine Does.skip (s := Instr.storeAt t (a.eval tx) (a.eval x)) (by unfold execOp; rw [ho]) (w' := w.setCells p.blk (p.off + o') v.cells.toList) ?_ ?_
  · rw [hx, hv]
    refine run_storeAt' hi hs (fun j hj => ?_) (fun j => hr.frozen j) h1
    obtain ⟨u, hc, _⟩ := hr.cell (j := o' + j) (by omega)
    rw [Nat.add_assoc, hc]; rfl
  · have hcell : ∀ b, p.foot b → Lies (w.setCells p.blk (p.off + o') v.cells.toList) b := fun b hb => by
      rw [hfoot] at hb
      obtain ⟨_, cs, t', g2, g3, _⟩ := hr
      obtain ⟨c, e1, _⟩ := heap_setCells p.blk t' (0, 0) v.cells.toList (p.off + o') w cs g2 (by simp; omega)
      exact .cells (c := c) (t := t') (z := (0, 0)) (by rw [show b = p.blk from hb]; exact e1)
    exact ⟨⟨ρ, R.hr.write hk hp hu hcell (hnew _ _ _ (Outl.write trivial hk hp hu) rfl), trivial, Step.write hk hp hu, fun _ _ h => h⟩, fun h => by cases h⟩
theorem storeD_sound (R : Rel P Γ N S ρ a w) {t : TypeId} {tx x : Operand} {h' : DH} {vc : Prop} (hd : storeD P S t (opd S.fr tx) (opd S.fr x) = some (h', vc)) (hv : vc) (o : Oper) (ho : o.op = .store t tx x) :
    Does P (execOp a.eval o) w (Got P Γ N S.h ρ w false .any h') := by
  have rx := opd_rep R tx
  have rv := opd_rep R x
  unfold storeD at hd
  split at hd
  · rename_i k j e
    rw [e] at rx
    obtain ⟨p, hp, hx⟩ := rx
    split at hd
    · rename_i l hk
      obtain ⟨p', hp', hr⟩ := R.hr.obj k _ hk
      have e : p' = p := Option.some.inj (hp'.symm.trans hp)
      subst e
      split at hd
      · rename_i ds hds
        split at hd
        · rename_i hsz
          split at hd
          · rename_i hc
            cases hd
            simp only [Bool.and_eq_true, decide_eq_true_eq] at hc
            cases hi : P.info? t with
            | none => rw [hi] at hsz; cases hsz
            | some i =>
              rw [hi] at hsz
              have hsz' : i.size = ds.length := by simpa using hsz
              obtain ⟨c1, c2⟩ := dcells_spec hds rv
              have hone : ∀ u ∈ (a.eval x).cells.toList, u.oneCell' = true := fun u hu => by
                obtain ⟨q, hq, rfl⟩ := List.getElem_of_mem hu
                have hq' : q < ds.length := by rw [← c1]; simpa using hq
                obtain ⟨u, g1, g2⟩ := c2 q hq'
                have h3 := List.all_eq_true.1 hc.1 (ds.getD q .any) (by simp [hq'])
                have h4 := (oneC_val h3 g2).1
                have : (a.eval x).cells.toList[q] = u := by
                  have hq2 : q < (a.eval x).cells.size := by simpa using hq
                  rw [Array.getElem?_eq_getElem hq2] at g1; simpa using Option.some.inj g1
                rw [this]; exact h4
              refine store_got R hk hp hr hi (by omega) (o' := j) (by omega) hone (fun M ρ' w' O hw' => ?_) o tx x ho hx rfl
              subst hw'
              show RowAt _ _ (splice l j ds).length _
              rw [splice_length]
              refine RowAt.writes hr (by simp; omega) (fun q v hq => ?_) (fun q u hq hq2 hu => ?_)
              · have hq0 : q < (a.eval x).cells.size := by have := (List.getElem?_eq_some_iff.1 hq).1; simpa using this
                have hq' : q < ds.length := by omega
                obtain ⟨u, g1, g2⟩ := c2 q hq'
                have : u = v := by
                  have : (a.eval x).cells[q]? = some v := by simpa using hq
                  rw [this] at g1; exact (Option.some.inj g1).symm
                subst this
                rw [splice_get l j ds (by omega), if_pos (by omega), show j + q - j = q by omega]
                exact g2.out _ O
              · rw [splice_get l j ds hq, if_neg (by simp at hq2; omega)]
                exact hu.out _ O
          · cases hd
        · cases hd
      · cases hd
    · cases hd
  · rename_i k m i j e
    rw [e] at rx
    obtain ⟨p, hp, hx⟩ := rx
    split at hd
    · rename_i hsz
      cases hi : P.info? t with
      | none => rw [hi] at hsz; cases hsz
      | some ti =>
        rw [hi] at hsz
        have hsz' : ti.size = 1 := by simpa using hsz
        split at hd
        · rename_i l hk
          obtain ⟨p', hp', hr⟩ := R.hr.obj k _ hk
          have e : p' = p := Option.some.inj (hp'.symm.trans hp)
          subst e
          split at hd
          · rename_i n ed
            split at hd
            · rename_i hm
              cases hd
              simp only [Bool.and_eq_true, beq_iff_eq] at hm
              obtain ⟨rfl, rfl⟩ := hm
              rw [ed] at rv
              have rv' : a.eval x = .int .i64 n := rv
              refine store_got R hk hp hr hi (v := .int .i64 n) (by rw [hsz']; rfl) (o' := i) (by simp [Value.cells]; omega) (by simp [Value.cells, Value.oneCell']) (fun M ρ' w' O hw' => ?_) o tx x ho (by simpa using hx) rv'
              subst hw'
              show RowAt _ _ (l.set i n).length _
              rw [List.length_set]
              refine RowAt.writes hr (by simp [Value.cells]; omega) (fun q v hq => ?_) (fun q u hq hq2 hu => ?_)
              · have : q = 0 := by have := (List.getElem?_eq_some_iff.1 hq).1; simpa [Value.cells] using this
                subst this
                have : v = .int .i64 n := by simpa [Value.cells] using hq.symm
                rw [this]
                have hv' : i < l.length := hv
                simp [hv']
              · rw [hu]
                simp only [Value.cells, List.length_cons, List.length_nil] at hq2
                rw [List.getD_eq_getElem?_getD, List.getD_eq_getElem?_getD, List.getElem?_set, if_neg (by simp at hq2; omega)]
            · cases hd
          · cases hd
        · rename_i l hk
          obtain ⟨p', hp', hr⟩ := R.hr.obj k _ hk
          have e : p' = p := Option.some.inj (hp'.symm.trans hp)
          subst e
          split at hd
          · rename_i n ed
            split at hd
            · rename_i hm
              cases hd
              simp only [Bool.and_eq_true, beq_iff_eq] at hm
              obtain ⟨rfl, rfl⟩ := hm
              rw [ed] at rv
              have rv' : a.eval x = .bool n := rv
              refine store_got R hk hp hr hi (v := .bool n) (by rw [hsz']; rfl) (o' := i) (by simp [Value.cells]; omega) (by simp [Value.cells, Value.oneCell']) (fun M ρ' w' O hw' => ?_) o tx x ho (by simpa using hx) rv'
              subst hw'
              show RowAt _ _ (l.set i n).length _
              rw [List.length_set]
              refine RowAt.writes hr (by simp [Value.cells]; omega) (fun q v hq => ?_) (fun q u hq hq2 hu => ?_)
              · have : q = 0 := by have := (List.getElem?_eq_some_iff.1 hq).1; simpa [Value.cells] using this
                subst this
                have : v = .bool n := by simpa [Value.cells] using hq.symm
                rw [this]
                have hv' : i < l.length := hv
                simp [hv']
              · rw [hu]
                simp only [Value.cells, List.length_cons, List.length_nil] at hq2
                rw [List.getD_eq_getElem?_getD, List.getD_eq_getElem?_getD, List.getElem?_set, if_neg (by simp at hq2; omega)]
            · cases hd
          · cases hd
        · rename_i m' n f hk
          obtain ⟨p', hp', hr⟩ := R.hr.obj k _ hk
          have e : p' = p := Option.some.inj (hp'.symm.trans hp)
          subst e
          split at hd
          · rename_i hm
            cases hd
            simp only [Bool.and_eq_true, beq_iff_eq, decide_eq_true_eq] at hm
            obtain ⟨⟨hpl, rfl⟩, hj⟩ := hm
            have hv' : i < n := hv
            obtain ⟨o1, o2⟩ := oneC_val (plainC_one hpl) rv
            have inb : i * m + j < n * m := by
              have : (i + 1) * m ≤ n * m := Nat.mul_le_mul_right _ hv'
              rw [Nat.succ_mul] at this; omega
            have hm0 : 0 < m := by omega
            refine store_got R hk hp hr hi (v := a.eval x) (by rw [hsz', o2]; rfl) (o' := i * m + j) (by rw [o2]; simp; omega) (by rw [o2]; simp [o1]) (fun M ρ' w' O hw' => ?_) o tx x ho hx rfl
            subst hw'
            refine RowAt.writes hr (by rw [o2]; simp; omega) (fun q v hq => ?_) (fun q u hq hq2 hu => ?_)
            · rw [o2] at hq
              have : q = 0 := by have := (List.getElem?_eq_some_iff.1 hq).1; simpa using this
              subst this
              have : v = a.eval x := by simpa using hq.symm
              rw [this, Nat.add_zero]
              have e1 : (i * m + j) / m = i := by rw [Nat.mul_comm, Nat.mul_add_div hm0, Nat.div_eq_of_lt hj, Nat.add_zero]
              have e2 : (i * m + j) % m = j := by rw [Nat.mul_comm, Nat.mul_add_mod, Nat.mod_eq_of_lt hj]
              show RepV M _ (if (i * m + j) / m = i ∧ (i * m + j) % m = j then opd S.fr x else f ((i * m + j) / m) ((i * m + j) % m)) [] _
              rw [if_pos ⟨e1, e2⟩]
              exact RepV.out _ O.nil (plainC_nil hpl rv)
            · rw [o2] at hq2
              simp at hq2
              have : ¬ (q / m = i ∧ q % m = j) := fun ⟨e1, e2⟩ => by
                have := Nat.div_add_mod q m
                rw [e1, e2, Nat.mul_comm] at this; omega
              show RepV M _ (if q / m = i ∧ q % m = j then opd S.fr x else f (q / m) (q % m)) [] _
              rw [if_neg this]
              exact RepV.out _ O.nil hu
          · cases hd
        · cases hd
    · cases hd
  · cases hd
/-- An object goes out of sight. -/
theorem MO.kill {k : Nat} {b : Nat} (hb : MO (h.set k none) ρ b) : MO h ρ b := MO.unset hb
theorem get_kill {k i : Nat} {o : DO} (hi : (h.set k none)[i]? = some (some o)) : i ≠ k ∧ h[i]? = some (some o) := by
  rw [List.getElem?_set] at hi
  by_cases e : k = i
  · rw [if_pos e] at hi; split at hi <;> cases hi
  · rw [if_neg e] at hi; exact ⟨Ne.symm e, hi⟩
theorem HRel.kill (H : HRel P Γ N h ρ w) (k : Nat) : HRel P Γ N (h.set k none) ρ w := by
  have O : Outl (MS N h ρ) w ρ (MS N (h.set k none) ρ) w ρ := ⟨fun _ _ _ _ => rfl, fun b hb => .inl (hb.imp id MO.kill), fun _ _ h => h⟩
  refine ⟨by simp [H.len], fun i o hi => ?_, fun i o p b h1 h2 h3 => H.cel i o p b (get_kill h1).2 h2 h3, fun i i' o o' p p' b hne h1 h2 h3 h4 h5 h6 => H.dis i i' o o' p p' b hne (get_kill h1).2 (get_kill h2).2 h3 h4 h5 h6, H.nlt, H.gi⟩
  obtain ⟨p, hp, hr⟩ := H.obj i o (get_kill hi).2
  exact ⟨p, hp, hr.out O (S := fun _ => False) (Upd.refl _ w) (fun _ h => h.elim) (fun _ _ _ h => h)⟩
theorem Outl.kill (k : Nat) : Outl (MS N h ρ) w ρ (MS N (h.set k none) ρ) w ρ := ⟨fun _ _ _ _ => rfl, fun b hb => .inl (hb.imp id MO.kill), fun _ _ h => h⟩
theorem Step.kill (k : Nat) : Step h ρ w (h.set k none) ρ w := ⟨Upd.refl _ w, fun b hb => .inl (MO.kill hb)⟩
/-- An object's row goes over into a new object, which may have new blocks besides. -/
theorem HRel.regrow (H : HRel P Γ N h ρ w) {w' : World} {k : Nat} {o o' : DO} {p p' : Place} (hk : h[k]? = some (some o)) (hp : ρ[k]? = some p) (hu : Upd p.foot w w') (hf : ∀ b, p'.foot b → (p.foot b ∨ w.heap.size ≤ b) ∧ Lies w' b)
    (ho : ObjRep P (MS N (h.set k none ++ [some o']) (ρ ++ [p'])) w' (ρ ++ [p']) p' o') :
    HRel P Γ N (h.set k none ++ [some o']) (ρ ++ [p']) w' ∧ Step h ρ w (h.set k none ++ [some o']) (ρ ++ [p']) w' := by
  have K := H.kill k
  have hlen : (h.set k none).length = h.length := by simp
  have hM : ∀ b, p.foot b → MO h ρ b := fun b hb => ⟨k, o, p, hk, hp, hb⟩
  have inv : ∀ {i : Nat} {o1 : DO} {p1 : Place}, (h.set k none ++ [some o'])[i]? = some (some o1) → (ρ ++ [p'])[i]? = some p1 → (i ≠ k ∧ i < h.length ∧ h[i]? = some (some o1) ∧ ρ[i]? = some p1) ∨ (i = h.length ∧ o1 = o' ∧ p1 = p') := by
    intro i o1 p1 h1 h2
    rcases get_snoc h1 with ⟨hl, h1⟩ | ⟨hl, h1⟩
    · rw [hlen] at hl
      rcases get_snoc h2 with ⟨_, h2⟩ | ⟨hl2, _⟩
      · exact .inl ⟨(get_kill h1).1, hl, (get_kill h1).2, h2⟩
      · rw [H.len] at hl2; omega
    · rw [hlen] at hl
      rcases get_snoc h2 with ⟨hl2, _⟩ | ⟨_, h2⟩
      · rw [H.len] at hl2; omega
      · cases h1; exact .inr ⟨hl, rfl, h2.symm⟩
  have grow : ∀ b, MO (h.set k none ++ [some o']) (ρ ++ [p']) b → MO h ρ b ∨ w.heap.size ≤ b := by
    rintro b ⟨i, o1, p1, h1, h2, h3⟩
    rcases inv h1 h2 with ⟨_, _, g1, g2⟩ | ⟨_, _, rfl⟩
    · exact .inl ⟨i, o1, p1, g1, g2, h3⟩
    · exact (hf b h3).1.imp (hM b) id
  have O : Outl (MS N h ρ) w ρ (MS N (h.set k none ++ [some o']) (ρ ++ [p'])) w' (ρ ++ [p']) := by
    refine ⟨fun b hb hm _ => hu.block b hb fun hx => hm (.inr (hM b hx)), fun b hb => ?_, fun i q hi => get_snoc_left hi⟩
    rcases hb with hb | hb
    · exact .inl (.inl hb)
    · exact (grow b hb).imp .inr id
  refine ⟨⟨by simp [H.len], fun i o1 hi => ?_, fun i o1 p1 b h1 h2 h3 => ?_, fun i i' o1 o2 p1 p2 b hne h1 h2 h3 h4 h5 h6 => ?_, fun b hb => ⟨Nat.lt_of_lt_of_le (H.nlt b hb).1 hu.size, (H.nlt b hb).2⟩, Γ.st _ _ H.gi (hu.mono fun b _ hb => (H.cel k o p b hk hp hb).1)⟩, ⟨hu.mono fun b _ hb => hM b hb, grow⟩⟩
  · rcases get_snoc hi with ⟨hl, hi⟩ | ⟨hl, hi⟩
    · obtain ⟨p1, hp1, hr⟩ := H.obj i o1 (get_kill hi).2
      refine ⟨p1, get_snoc_left hp1, hr.out O hu (fun b hb => .inr (hM b hb)) fun b _ h1 h2 => H.dis i k o1 o p1 p b (get_kill hi).1 (get_kill hi).2 hk hp1 hp h1 h2⟩
    · cases hi
      exact ⟨p', by rw [hl, hlen, ← H.len]; simp, ho⟩
  · rcases inv h1 h2 with ⟨hne, _, g1, g2⟩ | ⟨_, _, rfl⟩
    · obtain ⟨e1, e2, c, t, z, e3⟩ := H.cel i o1 p1 b g1 g2 h3
      exact ⟨e1, e2, c, t, z, (hu.block b (Array.getElem?_eq_some_iff.1 e3).1 fun hx => H.dis i k o1 o p1 p b hne g1 hk g2 hp h3 hx).trans e3⟩
    · obtain ⟨e1, e2⟩ := hf b h3
      rcases e1 with e1 | e1
      · obtain ⟨q1, q2, _⟩ := H.cel k o p b hk hp e1
        exact ⟨q1, q2, e2⟩
      · exact ⟨Nat.le_trans (Γ.lo _ H.gi) e1, fun hn => by have := H.nlt b hn; omega, e2⟩
  · have key : ∀ {i o1 p1}, i ≠ k → h[i]? = some (some o1) → ρ[i]? = some p1 → p1.foot b → p'.foot b → False := fun {i o1 p1} hne g1 g2 g3 g4 => by
      rcases (hf b g4).1 with e1 | e1
      · exact H.dis i k o1 o p1 p b hne g1 hk g2 hp g3 e1
      · have := H.lt (.inr ⟨i, o1, p1, g1, g2, g3⟩); omega
    rcases inv h1 h3 with ⟨hne1, _, g1, g2⟩ | ⟨e1, _, rfl⟩
    · rcases inv h2 h4 with ⟨_, _, g3, g4⟩ | ⟨_, _, rfl⟩
      · exact H.dis i i' o1 o2 p1 p2 b hne g1 g3 g2 g4 h5 h6
      · exact key hne1 g1 g2 h5 h6
    · rcases inv h2 h4 with ⟨hne2, _, g3, g4⟩ | ⟨e2, _, rfl⟩
      · exact key hne2 g3 g4 h6 h5
      · exact hne (e1.trans e2.symm)
/-- One object's row goes on behind another's. -/
def appR (n : Nat) (R : Nat → Value → Prop) (news : List Value) (j : Nat) (u : Value) : Prop := if j < n then R j u else news[j - n]? = some u
/-- Append, at a row of the view's own. -/
theorem append_row {t ty e : TypeId} {i : TypeInfo} {z : Value} (hu : P.underlying t = some (.slice e)) (hi : P.info? e = some i) (hz : i.zero = some z) (hs0 : i.size ≠ 0) (hzs : z.cells.size = i.size) (hby : i.bytes ≤ 128)
    {p : Place} {n cap : Nat} {R : Nat → Value → Prop} (hr : RowAt w p (n * i.size) R) (hcap : n ≤ cap) (hroom : p.off + cap * i.size ≤ p.room)
    {vy : Value} {c : Nat} {news : List Value} (hy : Src P i.size t vy c news w) (hb : n + c ≤ 1000000000000) :
    ∃ w' p' cap', (Builtin.append_ #[t, t] ty #[.slice (some ⟨p.blk, p.off, none⟩) n cap, vy]).run P w = .ok (.slice (some ⟨p'.blk, p'.off, none⟩) (n + c) cap') w' ∧ n + c ≤ cap' ∧ p'.off + cap' * i.size ≤ p'.room ∧
      Upd p.foot w w' ∧ (∀ b, p'.foot b → p.foot b ∨ w.heap.size ≤ b) ∧ RowAt w' p' ((n + c) * i.size) (appR (n * i.size) R news) := by
  have hnl : news.length = c * i.size := hy.newsLen
  by_cases hroom2 : n + c ≤ cap
  · obtain ⟨g1, cs, tt, g2, g3, g4, g5⟩ := hr
    have hmul : (n + c) * i.size ≤ cap * i.size := Nat.mul_le_mul_right _ hroom2
    rw [Nat.add_mul] at hmul
    have hfit : p.off + n * i.size + news.length ≤ cs.size := by omega
    refine ⟨w.setCells p.blk (p.off + n * i.size) news, p, cap, run_append_room_src w t t ty e i hu hi p.blk p.off n cap vy c news hy hroom2 (fun j hj => ?_) (fun j _ => by unfold World.frozen?; simp [g2]), hroom2, hroom, ?_, fun b hb => .inl hb, ?_⟩
    · unfold World.cell?; simp only [g2]
      simp; omega
    · rw [g1]; exact upd_setCells _ _ _ _
    · obtain ⟨cs', e1, e2, e3⟩ := heap_setCells p.blk tt (0, 0) news (p.off + n * i.size) w cs g2 hfit
      refine ⟨g1, cs', tt, e1, by rw [Nat.add_mul]; omega, by omega, fun j hj => ?_⟩
      rw [Nat.add_mul] at hj
      rw [e3]
      by_cases hjn : j < n * i.size
      · rw [if_neg (by omega)]
        obtain ⟨u, q1, q2⟩ := g5 j hjn
        exact ⟨u, q1, by unfold appR; rw [if_pos hjn]; exact q2⟩
      · rw [if_pos (by omega)]
        have hlt : j - n * i.size < news.length := by omega
        refine ⟨news[j - n * i.size], by rw [show p.off + j - (p.off + n * i.size) = j - n * i.size by omega]; simp [hlt], ?_⟩
        unfold appR; rw [if_neg hjn]; simp [hlt]
  · obtain ⟨g, hg⟩ : ∃ g : Nat → Value, ∀ j, j < n * i.size → w.cell? ⟨p.blk, p.off + j, none⟩ = some (g j) ∧ R j (g j) := by
      refine ⟨fun j => (w.cell? ⟨p.blk, p.off + j, none⟩).getD undef, fun j hj => ?_⟩
      obtain ⟨u, h1, h2⟩ := hr.cell hj
      simp [h1, h2]
    have hold : (Builtin.firstCells i.size n (.slice (some ⟨p.blk, p.off, none⟩) n cap)).run P w.drew = .ok (((List.range (n * i.size)).map g).toArray) w.drew := by
      have := run_loadCells (P := P) w.drew ⟨p.blk, p.off, none⟩ (n * i.size) g (fun j hj => by rw [add_none]; exact ((Ext.toDrew w).cell (hg j hj).1))
      simpa [Builtin.firstCells] using this
    have hn128 : (n + c) * i.bytes ≤ 1000000000000 * 128 := Nat.mul_le_mul hb hby
    have hrun := run_append_grow_src (P := P) w t t ty e i z hu hi hz (some ⟨p.blk, p.off, none⟩) n cap _ hold vy c news hy (by omega) (by omega) (growslice_fits (by omega) (by omega))
    have hge : n + c ≤ grownCap w (n + c) cap e := grownCap_ge w (n + c) cap e
    have hcs : ((((List.range (n * i.size)).map g) ++ news).toArray ++ Builtin.zeroCells z.cells (grownCap w (n + c) cap e - (n + c))).size = grownCap w (n + c) cap e * i.size := by
      simp only [Array.size_append, List.size_toArray, List.length_append, List.length_map, List.length_range, hnl, size_zeroCells, hzs, ← Nat.add_mul]
      congr 1; omega
    refine ⟨_, newPlace w (grownCap w (n + c) cap e * i.size), grownCap w (n + c) cap e, hrun, hge, by simp [newPlace], ?_, fun b hb => .inr (Nat.le_of_eq (Eq.symm hb)), ?_⟩
    · exact Upd.ofExt ((Ext.toDrew w).allocR _)
    · refine RowAt.out (row_made (w := w) (w1 := w.drew) (t := e) (cs := (((List.range (n * i.size)).map g) ++ news).toArray ++ Builtin.zeroCells z.cells (grownCap w (n + c) cap e - (n + c))) rfl hcs |> fun hr => ?_) rfl (R := fun j u => ((((List.range (n * i.size)).map g) ++ news).toArray ++ Builtin.zeroCells z.cells (grownCap w (n + c) cap e - (n + c)))[j]? = some u) fun j u hj hu' => ?_
      · obtain ⟨q1, cs, tt, q2, q3, q4, q5⟩ := hr
        have hle : (n + c) * i.size ≤ grownCap w (n + c) cap e * i.size := Nat.mul_le_mul_right _ hge
        exact ⟨q1, cs, tt, q2, by omega, q4, fun j hj => q5 j (by omega)⟩
      · rw [Nat.add_mul] at hj
        unfold appR
        have hl1 : j < (((List.range (n * i.size)).map g) ++ news).length := by simp; omega
        rw [Array.getElem?_append_left (by simpa using hl1)] at hu'
        by_cases hjn : j < n * i.size
        · rw [if_pos hjn]
          have : u = g j := by
            simp only [List.getElem?_toArray] at hu'
            rw [List.getElem?_append_left (by simpa using hjn)] at hu'
            simp [hjn] at hu'
            exact hu'.symm
          rw [this]; exact (hg j hjn).2
        · rw [if_neg hjn]
          simp only [List.getElem?_toArray] at hu'
          rw [List.getElem?_append_right (by simp; omega)] at hu'
          simpa using hu'
/-- Append onto nil. -/
theorem append_nil_row {t ty e : TypeId} {i : TypeInfo} {z : Value} (hu : P.underlying t = some (.slice e)) (hi : P.info? e = some i) (hz : i.zero = some z) (hzs : z.cells.size = i.size) (hby : i.bytes ≤ 128)
    {vy : Value} {c : Nat} {news : List Value} (hy : Src P i.size t vy c news w) (hc : 0 < c) (hb : c ≤ 1000000000000) :
    ∃ w' cap', (Builtin.append_ #[t, t] ty #[.slice none 0 0, vy]).run P w = .ok (.slice (some ⟨w.heap.size, 0, none⟩) c cap') w' ∧ c ≤ cap' ∧ ∃ cs, w' = w.drew.alloc (.cells cs e) ∧ cs.size = cap' * i.size ∧ ∀ j, j < c * i.size → cs[j]? = news[j]? := by
  have hnl : news.length = c * i.size := hy.newsLen
  have hold : (Builtin.firstCells i.size 0 (.slice none 0 0)).run P w.drew = .ok (([] : List Value).toArray) w.drew := rfl
  have hn128 : c * i.bytes ≤ 1000000000000 * 128 := Nat.mul_le_mul hb hby
  have hrun := run_append_grow_src (P := P) w t t ty e i z hu hi hz none 0 0 [] hold vy c news hy (by omega) (by omega) (growslice_fits (by omega) (by rw [Nat.zero_add]; omega))
  rw [Nat.zero_add] at hrun
  have hge : c ≤ grownCap w c 0 e := grownCap_ge w c 0 e
  refine ⟨_, _, hrun, hge, _, rfl, ?_, fun j hj => ?_⟩
  · simp only [List.nil_append, Array.size_append, List.size_toArray, hnl, size_zeroCells, hzs, ← Nat.add_mul]
    congr 1; omega
  · rw [Array.getElem?_append_left (by simp; omega)]
    simp
end
end Go.Proofs.YtekkngkphejfcaaDoor
namespace Go.Proofs.YtekkngkphejfcaaDoor
open Go.RowKit
/-- A slice of integers, as a list. -/
def intsOf (S : St) : DV → Option (List Int × Prop)
  | .nils => some ([], True)
  | .ints l => some (l, True)
  | .msl k m off n => match S.h[k]? with
    | some (some (.ints l)) => if m == 1 then some (l, off = 0 ∧ n = l.length) else none
    | _ => none
  | _ => none
def boolsOf (S : St) : DV → Option (List Bool × Prop)
  | .nils => some ([], True)
  | .bools l => some (l, True)
  | .msl k m off n => match S.h[k]? with
    | some (some (.bools l)) => if m == 1 then some (l, off = 0 ∧ n = l.length) else none
    | _ => none
  | _ => none
def genOf (S : St) (m : Nat) : DV → Option (Nat × (Nat → Nat → DV) × Prop)
  | .nils => some (0, (fun _ _ => .any), True)
  | .sl m' n f => if m' == m then some (n, f, True) else none
  | .msl k m' off n => match S.h[k]? with
    | some (some (.arr m2 n2 f)) => if m' == m && m2 == m then some (n2, f, off = 0 ∧ n = n2) else none
    | _ => none
  | _ => none
def LIM : Nat := 1000000000000
def appendD (P : Program) (S : St) (t : TypeId) (x y : DV) : Option (DV × DH × Prop) := match ekB P t with
  | some (k, _, i, _) => if 128 < i.bytes then none else match k with
    | .ints => match intsOf S y with
      | some (ys, vy) => match x with
        | .nils => some (.msl S.h.length 1 0 ys.length, S.h ++ [some (.ints ys)], vy ∧ 0 < ys.length ∧ ys.length ≤ LIM)
        | .msl k m off n => match S.h[k]? with
          | some (some (.ints xs)) => if m == 1 then some (.msl S.h.length 1 0 (xs.length + ys.length), S.h.set k none ++ [some (.ints (xs ++ ys))], vy ∧ (off = 0 ∧ n = xs.length) ∧ xs.length + ys.length ≤ LIM) else none
          | _ => none
        | _ => none
      | none => none
    | .bools => match boolsOf S y with
      | some (ys, vy) => match x with
        | .nils => some (.msl S.h.length 1 0 ys.length, S.h ++ [some (.bools ys)], vy ∧ 0 < ys.length ∧ ys.length ≤ LIM)
        | .msl k m off n => match S.h[k]? with
          | some (some (.bools xs)) => if m == 1 then some (.msl S.h.length 1 0 (xs.length + ys.length), S.h.set k none ++ [some (.bools (xs ++ ys))], vy ∧ (off = 0 ∧ n = xs.length) ∧ xs.length + ys.length ≤ LIM) else none
          | _ => none
        | _ => none
      | none => none
    | .gen m => match genOf S m y with
      | some (c, g, vy) => match x with
        | .nils => some (.msl S.h.length m 0 c, S.h ++ [some (.arr m c g)], (vy ∧ ∀ i j, i < c → j < m → oneC (g i j) = true) ∧ 0 < c ∧ c ≤ LIM)
        | .msl k m' off n => match S.h[k]? with
          | some (some (.arr m2 n2 f)) => if m' == m && m2 == m then some (.msl S.h.length m 0 (n2 + c), S.h.set k none ++ [some (.arr m (n2 + c) (fun i j => if i < n2 then f i j else g (i - n2) j))], (vy ∧ ∀ i j, i < c → j < m → oneC (g i j) = true) ∧ (off = 0 ∧ n = n2) ∧ n2 + c ≤ LIM) else none
          | _ => none
        | _ => none
      | none => none
  | none => none
section
variable {P : Program} {Γ : Glo} {N : Nat → Prop} {S : St} {ρ : List Place} {a : Act} {w : World} {h : DH}
theorem src_of {t e : TypeId} (hu : P.underlying t = some (.slice e)) {m : Nat} {ad : Option Addr} {c cap : Nat} {news : List Value} (hl : news.length = c * m) (hc : ∀ j u, news[j]? = some u → ∃ b o, ad = some ⟨b, o, none⟩ ∧ w.cell? ⟨b, o + j, none⟩ = some u)
    (h1 : ∀ u ∈ news, u.oneCell' = true) (hm : 0 < m) (hnone : ad = none → c = 0) : Src P m t (.slice ad c cap) c news w := by
  cases ad with
  | none =>
    have := hnone rfl
    subst this
    have : news = [] := List.eq_nil_of_length_eq_zero (by simpa using hl)
    subst this
    exact Src.ofNil w hu cap
  | some ad =>
    refine Src.ofSlice w hu ad c cap news hl (fun j u hj => ?_) h1
    obtain ⟨b, o, e1, e2⟩ := hc j u hj
    cases e1
    rw [add_none]; exact e2
/-- A slice's cells, to be appended. -/
theorem intsOf_src (R : Rel P Γ N S ρ a w) {t e : TypeId} (hu : P.underlying t = some (.slice e)) {y : DV} {v : Value} (hy : RepV (MS N S.h ρ) w y ρ v) {ys : List Int} {vy : Prop} (h : intsOf S y = some (ys, vy)) (hv : vy) :
    Src P 1 t v ys.length (ys.map (Value.int .i64)) w := by
  have one : ∀ u ∈ ys.map (Value.int .i64), u.oneCell' = true := fun u hu => by obtain ⟨n, _, rfl⟩ := List.mem_map.1 hu; rfl
  have val : ∀ {j : Nat} {u : Value}, (ys.map (Value.int .i64))[j]? = some u → j < ys.length ∧ u = .int .i64 (ys.getD j 0) := fun {j u} hj => by
    have hlt := (List.getElem?_eq_some_iff.1 hj).1
    have hlt : j < ys.length := by simpa using hlt
    simp [hlt] at hj
    exact ⟨hlt, by rw [← hj]; simp [hlt]⟩
  unfold intsOf at h
  split at h
  · cases h; rw [show v = _ from hy]; exact Src.ofNil w hu 0
  · cases h
    obtain ⟨ad, cap, rfl, h1, h2, h3⟩ := hy
    refine src_of hu (by simp) (fun j u hj => ?_) one (by omega) (fun e => ?_)
    · obtain ⟨hlt, rfl⟩ := val hj
      obtain ⟨b, o, e1, _, e2⟩ := h3 j hlt
      exact ⟨b, o, e1, e2⟩
    · rcases Nat.eq_zero_or_pos ys.length with h0 | h0
      · exact h0
      · obtain ⟨b, o, e1, _⟩ := h3 0 h0; rw [e] at e1; cases e1
  · rename_i k m off n
    obtain ⟨p, cap, hp, rfl, h1, h2, h3⟩ := hy
    split at h
    · rename_i l hk
      split at h
      · rename_i hm
        cases h
        have hm' : m = 1 := by simpa using hm
        subst hm'
        obtain ⟨p', hp', hr⟩ := R.hr.obj k _ hk
        have e : p' = p := Option.some.inj (hp'.symm.trans hp)
        subst e
        obtain ⟨rfl, rfl⟩ := hv
        refine src_of hu (by simp) (fun j u hj => ?_) one (by omega) (fun e => by cases e)
        obtain ⟨hlt, rfl⟩ := val hj
        obtain ⟨u, e1, e2⟩ := RowAt.cell hr hlt
        exact ⟨p'.blk, p'.off, by simp, by rw [e1, e2]⟩
      · cases h
    · cases h
  · cases h
theorem boolsOf_src (R : Rel P Γ N S ρ a w) {t e : TypeId} (hu : P.underlying t = some (.slice e)) {y : DV} {v : Value} (hy : RepV (MS N S.h ρ) w y ρ v) {ys : List Bool} {vy : Prop} (h : boolsOf S y = some (ys, vy)) (hv : vy) :
    Src P 1 t v ys.length (ys.map Value.bool) w := by
  have one : ∀ u ∈ ys.map Value.bool, u.oneCell' = true := fun u hu => by obtain ⟨n, _, rfl⟩ := List.mem_map.1 hu; rfl
  have val : ∀ {j : Nat} {u : Value}, (ys.map Value.bool)[j]? = some u → j < ys.length ∧ u = .bool (ys.getD j false) := fun {j u} hj => by
    have hlt := (List.getElem?_eq_some_iff.1 hj).1
    have hlt : j < ys.length := by simpa using hlt
    simp [hlt] at hj
    exact ⟨hlt, by rw [← hj]; simp [hlt]⟩
  unfold boolsOf at h
  split at h
  · cases h; rw [show v = _ from hy]; exact Src.ofNil w hu 0
  · cases h
    obtain ⟨ad, cap, rfl, h1, h2, h3⟩ := hy
    refine src_of hu (by simp) (fun j u hj => ?_) one (by omega) (fun e => ?_)
    · obtain ⟨hlt, rfl⟩ := val hj
      obtain ⟨b, o, e1, _, e2⟩ := h3 j hlt
      exact ⟨b, o, e1, e2⟩
    · rcases Nat.eq_zero_or_pos ys.length with h0 | h0
      · exact h0
      · obtain ⟨b, o, e1, _⟩ := h3 0 h0; rw [e] at e1; cases e1
  · rename_i k m off n
    obtain ⟨p, cap, hp, rfl, h1, h2, h3⟩ := hy
    split at h
    · rename_i l hk
      split at h
      · rename_i hm
        cases h
        have hm' : m = 1 := by simpa using hm
        subst hm'
        obtain ⟨p', hp', hr⟩ := R.hr.obj k _ hk
        have e : p' = p := Option.some.inj (hp'.symm.trans hp)
        subst e
        obtain ⟨rfl, rfl⟩ := hv
        refine src_of hu (by simp) (fun j u hj => ?_) one (by omega) (fun e => by cases e)
        obtain ⟨hlt, rfl⟩ := val hj
        obtain ⟨u, e1, e2⟩ := RowAt.cell hr hlt
        exact ⟨p'.blk, p'.off, by simp, by rw [e1, e2]⟩
      · cases h
    · cases h
  · cases h
theorem exec_append {ρ' : Operand → Value} {o : Oper} {c : Call} {x y : Operand} {t t2 : TypeId} (ho : o.op = .call c) (hc : c.callee = .builtin .append) (ha : c.args.toList = [x, y]) (ht : c.argTypes.toList = [t, t2]) :
    execOp ρ' o = (do pure (.value (← Builtin.append_ #[t, t2] o.type #[ρ' x, ρ' y]))) := by
  unfold execOp
  rw [ho]
  show (resolve ρ' c o.type >>= fun d => invoke d.target d.args) = _
  unfold resolve
  rw [hc, toList_two ha, toList_two ht]
  simp
  rfl
/-- Append at an object of the view's. -/
theorem append_obj_got (R : Rel P Γ N S ρ a w) {t e : TypeId} {i : TypeInfo} {z : Value} (hu : P.underlying t = some (.slice e)) (hi : P.info? e = some i) (hz : i.zero = some z) (hs0 : i.size ≠ 0) (hzs : z.cells.size = i.size) (hby : i.bytes ≤ 128)
    {k : Nat} {ob ob' : DO} {p : Place} (hk : S.h[k]? = some (some ob)) (hp : ρ[k]? = some p) {n cap c : Nat} {Rw : Nat → Value → Prop} (hr : RowAt w p (n * i.size) Rw) (hcap : n ≤ cap) (hroom : p.off + cap * i.size ≤ p.room)
    {vy : Value} {news : List Value} (hy : Src P i.size t vy c news w) (hb : n + c ≤ LIM)
    (hnew : ∀ M ρ' w' p', Outl (MS N S.h ρ) w ρ M w' ρ' → RowAt w' p' ((n + c) * i.size) (appR (n * i.size) Rw news) → ObjRep P M w' ρ' p' ob')
    (o : Oper) {cl : Call} {x y : Operand} (ho : o.op = .call cl) (hc : cl.callee = .builtin .append) (ha : cl.args.toList = [x, y]) (ht : cl.argTypes.toList = [t, t]) (hx : a.eval x = .slice (some ⟨p.blk, p.off, none⟩) n cap) (hvy : a.eval y = vy) :
    Does P (execOp a.eval o) w (Got P Γ N S.h ρ w false (.msl S.h.length i.size 0 (n + c)) (S.h.set k none ++ [some ob'])) := by
  obtain ⟨w', p', cap', h1, h2, h3, h4, h5, h6⟩ := append_row (ty := o.type) hu hi hz hs0 hzs hby hr hcap hroom hy hb
  refine Does.value (exec_append ho hc ha ht) (by rw [hx, hvy]; exact h1) ?_
  have hcells : ∀ b, p'.foot b → Lies w' b := fun b hb => by
    obtain ⟨e1, cs, tt, e2, _⟩ := h6
    rw [e1] at hb
    exact .cells (c := cs) (t := tt) (z := (0, 0)) (by rw [show b = p'.blk from hb]; exact e2)
  have hlen : (S.h.set k none).length = S.h.length := by simp
  have O : Outl (MS N S.h ρ) w ρ (MS N (S.h.set k none ++ [some ob']) (ρ ++ [p'])) w' (ρ ++ [p']) := by
    refine ⟨fun b hb hm _ => h4.block b hb fun hx => hm (.inr ⟨k, ob, p, hk, hp, hx⟩), fun b hb => ?_, fun i q hi => get_snoc_left hi⟩
    rcases hb with hb | hb
    · exact .inl (.inl hb)
    · obtain ⟨i1, o1, p1, g1, g2, g3⟩ := hb
      rcases get_snoc g1 with ⟨hl, g1⟩ | ⟨hl, _⟩
      · rcases get_snoc g2 with ⟨_, g2⟩ | ⟨hl2, _⟩
        · exact .inl (.inr ⟨i1, o1, p1, (get_kill g1).2, g2, g3⟩)
        · rw [hlen] at hl; rw [R.hr.len] at hl2; omega
      · rcases get_snoc g2 with ⟨hl2, _⟩ | ⟨_, rfl⟩
        · rw [hlen] at hl; rw [R.hr.len] at hl2; omega
        · exact (h5 b g3).imp (fun hx => .inr ⟨k, ob, p, hk, hp, hx⟩) id
  obtain ⟨g1, g2⟩ := R.hr.regrow (o' := ob') hk hp h4 (fun b hb => ⟨h5 b hb, hcells b hb⟩) (hnew _ _ _ _ O h6)
  refine ⟨⟨ρ ++ [p'], g1, ⟨p', cap', by rw [← R.hr.len]; simp, by simp, h2, by unfold LB; unfold LIM at hb; omega, by simpa using h3⟩, g2, fun _ _ h => get_snoc_left h⟩, fun h => by cases h⟩
/-- Append at nil. -/
theorem append_nil_got (R : Rel P Γ N S ρ a w) {t e : TypeId} {i : TypeInfo} {z : Value} (hu : P.underlying t = some (.slice e)) (hi : P.info? e = some i) (hz : i.zero = some z) (hzs : z.cells.size = i.size) (hby : i.bytes ≤ 128)
    {ob' : DO} {c : Nat} {vy : Value} {news : List Value} (hy : Src P i.size t vy c news w) (hc0 : 0 < c) (hb : c ≤ LIM)
    (hnew : ∀ M ρ' w' p', Outl (MS N S.h ρ) w ρ M w' ρ' → RowAt w' p' (c * i.size) (fun j u => news[j]? = some u) → ObjRep P M w' ρ' p' ob') (ext : Bool)
    (o : Oper) {cl : Call} {x y : Operand} (ho : o.op = .call cl) (hc : cl.callee = .builtin .append) (ha : cl.args.toList = [x, y]) (ht : cl.argTypes.toList = [t, t]) (hx : a.eval x = .slice none 0 0) (hvy : a.eval y = vy) :
    Does P (execOp a.eval o) w (Got P Γ N S.h ρ w ext (.msl S.h.length i.size 0 c) (S.h ++ [some ob'])) := by
  obtain ⟨w', cap', h1, h2, cs, rfl, h4, h5⟩ := append_nil_row (ty := o.type) hu hi hz hzs hby hy hc0 hb
  have hnl : news.length = c * i.size := hy.newsLen
  refine Does.value (exec_append ho hc ha ht) (by rw [hx, hvy]; exact h1) ?_
  have hle : c * i.size ≤ cap' * i.size := Nat.mul_le_mul_right _ h2
  refine got_new (d := .msl S.h.length i.size 0 c) R.hr ⟨Ext.toDrew w, rfl⟩ (fun M ρ' O => hnew _ _ _ _ O ?_) (fun M ρ' hp => ⟨_, cap', hp, by simp [newPlace], h2, by unfold LB; unfold LIM at hb; omega, by simp only [newPlace]; omega⟩) ext
  refine row_new rfl (by omega) fun j hj => ?_
  rw [h5 j hj]
  exact ⟨news[j], by simp [hnl, hj], by simp [hnl, hj]⟩
theorem ints_appR {xs ys : List Int} {M : Nat → Prop} {w' : World} {ρ' : List Place} {p' : Place} {s : Nat} (hs : s = 1) (h : RowAt w' p' ((xs.length + ys.length) * s) (appR (xs.length * s) (fun j u => u = .int .i64 (xs.getD j 0)) (ys.map (Value.int .i64)))) : ObjRep P M w' ρ' p' (.ints (xs ++ ys)) := by
  subst hs
  show RowAt _ _ (xs ++ ys).length _
  rw [List.length_append]
  rw [Nat.mul_one, Nat.mul_one] at h
  refine RowAt.out h rfl fun j u hj hu => ?_
  unfold appR at hu
  split at hu
  · rename_i hlt
    rw [hu]; simp [List.getD_eq_getElem?_getD, List.getElem?_append_left hlt]
  · rename_i hlt
    have hj2 : j - xs.length < ys.length := by omega
    simp [hj2] at hu
    rw [← hu]; simp [List.getD_eq_getElem?_getD, List.getElem?_append_right (Nat.le_of_not_lt hlt), hj2]
theorem bools_appR {xs ys : List Bool} {M : Nat → Prop} {w' : World} {ρ' : List Place} {p' : Place} {s : Nat} (hs : s = 1) (h : RowAt w' p' ((xs.length + ys.length) * s) (appR (xs.length * s) (fun j u => u = .bool (xs.getD j false)) (ys.map Value.bool))) : ObjRep P M w' ρ' p' (.bools (xs ++ ys)) := by
  subst hs
  show RowAt _ _ (xs ++ ys).length _
  rw [List.length_append]
  rw [Nat.mul_one, Nat.mul_one] at h
  refine RowAt.out h rfl fun j u hj hu => ?_
  unfold appR at hu
  split at hu
  · rename_i hlt
    rw [hu]; simp [List.getD_eq_getElem?_getD, List.getElem?_append_left hlt]
  · rename_i hlt
    have hj2 : j - xs.length < ys.length := by omega
    simp [hj2] at hu
    rw [← hu]; simp [List.getD_eq_getElem?_getD, List.getElem?_append_right (Nat.le_of_not_lt hlt), hj2]
theorem genOf_src (R : Rel P Γ N S ρ a w) {t e : TypeId} (hu : P.underlying t = some (.slice e)) {y : DV} {v : Value} (hy : RepV (MS N S.h ρ) w y ρ v) {m c : Nat} (hm0 : 0 < m) {g : Nat → Nat → DV} {vy : Prop} (h : genOf S m y = some (c, g, vy)) (hv : vy)
    (h1 : ∀ i j, i < c → j < m → oneC (g i j) = true) : ∃ news, Src P m t v c news w ∧ ∀ j u, news[j]? = some u → RepV (MS N S.h ρ) w (g (j / m) (j % m)) [] u := by
  have dm : ∀ {j : Nat}, j < c * m → j / m < c ∧ j % m < m ∧ j / m * m + j % m = j := fun {j} hj => ⟨by rw [Nat.div_lt_iff_lt_mul hm0]; exact hj, Nat.mod_lt _ hm0, by rw [Nat.mul_comm]; exact Nat.div_add_mod j m⟩
  have core : ∀ (ad : Option Addr) (cap : Nat), (∀ j, j < c * m → ∃ b o u, ad = some ⟨b, o, none⟩ ∧ w.cell? ⟨b, o + j, none⟩ = some u ∧ RepV (MS N S.h ρ) w (g (j / m) (j % m)) [] u) → v = .slice ad c cap → (ad = none → c = 0) →
      ∃ news, Src P m t v c news w ∧ ∀ j u, news[j]? = some u → RepV (MS N S.h ρ) w (g (j / m) (j % m)) [] u := by
    intro ad cap hc hve hnone
    obtain ⟨f, hf⟩ : ∃ f : Nat → Value, ∀ j, j < c * m → ∃ b o, ad = some ⟨b, o, none⟩ ∧ w.cell? ⟨b, o + j, none⟩ = some (f j) ∧ RepV (MS N S.h ρ) w (g (j / m) (j % m)) [] (f j) := by
      refine ⟨fun j => (match ad with | some a => w.cell? ⟨a.block, a.off + j, none⟩ | none => none).getD undef, fun j hj => ?_⟩
      obtain ⟨b, o, u, rfl, e2, e3⟩ := hc j hj
      exact ⟨b, o, rfl, by simp [e2], by simpa [e2] using e3⟩
    have val : ∀ {j : Nat} {u : Value}, ((List.range (c * m)).map f)[j]? = some u → j < c * m ∧ u = f j := fun {j u} hj => by
      have hlt := (List.getElem?_eq_some_iff.1 hj).1
      have hlt : j < c * m := by simpa using hlt
      simp [hlt] at hj
      exact ⟨hlt, hj.symm⟩
    refine ⟨(List.range (c * m)).map f, ?_, fun j u hj => ?_⟩
    · rw [hve]
      refine src_of hu (by simp) (fun j u hj => ?_) (fun u hu' => ?_) hm0 hnone
      · obtain ⟨hlt, rfl⟩ := val hj
        obtain ⟨b, o, e1, e2, _⟩ := hf j hlt
        exact ⟨b, o, e1, e2⟩
      · obtain ⟨j, hj, rfl⟩ := List.mem_map.1 hu'
        have hlt := List.mem_range.1 hj
        obtain ⟨_, _, _, _, e3⟩ := hf j hlt
        exact (oneC_val (h1 _ _ (dm hlt).1 (dm hlt).2.1) e3).1
    · obtain ⟨hlt, rfl⟩ := val hj
      obtain ⟨_, _, _, _, e3⟩ := hf j hlt
      exact e3
  unfold genOf at h
  split at h
  · cases h
    refine core none 0 (fun j hj => by rw [Nat.zero_mul] at hj; omega) hy (fun _ => rfl)
  · rename_i m' n f
    split at h
    · rename_i hm
      cases h
      have hm' : m' = m := by simpa using hm
      subst hm'
      obtain ⟨ad, cap, rfl, g1, g2, g3⟩ := hy
      refine core ad cap (fun j hj => ?_) rfl (fun e => ?_)
      · obtain ⟨b, o, u, e1, _, e2, e3⟩ := g3 _ _ (dm hj).1 (dm hj).2.1
        exact ⟨b, o, u, e1, by rw [(dm hj).2.2] at e2; exact e2, e3⟩
      · rcases Nat.eq_zero_or_pos c with h0 | h0
        · exact h0
        · obtain ⟨b, o, u, e1, _⟩ := g3 0 0 h0 hm0; rw [e] at e1; cases e1
    · cases h
  · rename_i k m' off n
    obtain ⟨p, cap, hp, rfl, g1, g2, g3⟩ := hy
    split at h
    · rename_i m2 n2 f hk
      split at h
      · rename_i hm
        cases h
        simp only [Bool.and_eq_true, beq_iff_eq] at hm
        obtain ⟨rfl, rfl⟩ := hm
        obtain ⟨p', hp', hr⟩ := R.hr.obj k _ hk
        have e : p' = p := Option.some.inj (hp'.symm.trans hp)
        subst e
        obtain ⟨rfl, rfl⟩ := hv
        refine core (some ⟨p'.blk, p'.off + 0 * m2, none⟩) cap (fun j hj => ?_) rfl (fun e => by cases e)
        obtain ⟨u, e1, e2⟩ := RowAt.cell hr hj
        exact ⟨p'.blk, p'.off, u, by simp, e1, e2⟩
      · cases h
    · cases h
  · cases h
theorem appendD_sound (R : Rel P Γ N S ρ a w) {t : TypeId} {x y : Operand} {d : DV} {h' : DH} {vc : Prop} (hd : appendD P S t (opd S.fr x) (opd S.fr y) = some (d, h', vc)) (hv : vc) (o : Oper) {cl : Call} (ho : o.op = .call cl) (hc : cl.callee = .builtin .append)
    (ha : cl.args.toList = [x, y]) (ht : cl.argTypes.toList = [t, t]) : Does P (execOp a.eval o) w (Got P Γ N S.h ρ w false d h') := by
  have rx := opd_rep R x
  have ry := opd_rep R y
  unfold appendD at hd
  split at hd
  · rename_i kk e i z hk
    obtain ⟨hu, hi, hz, h0, hzs, hks, hq1, hq2⟩ := ekB_spec hk
    clear hq1 hq2
    split at hd
    · cases hd
    · rename_i hby
      have hby' : i.bytes ≤ 128 := by omega
      split at hd
      · have hs1 : i.size = 1 := hks.symm
        split at hd
        · rename_i ys vy hy
          split at hd
          · rename_i ex
            cases hd
            rw [ex] at rx
            have := append_nil_got (ob' := .ints ys) R hu hi hz hzs hby' (by rw [hs1]; exact intsOf_src R hu ry hy hv.1) hv.2.1 hv.2.2 (fun M ρ' w' p' O hr => by
              have hr' := hr
              rw [hs1, Nat.mul_one] at hr'
              refine RowAt.out hr' rfl fun j u hj hu' => ?_
              simp [hj] at hu'
              rw [← hu']; simp [hj]) false o ho hc ha ht rx rfl
            rw [hs1] at this
            exact this
          · rename_i k m off n ex
            rw [ex] at rx
            obtain ⟨p, cap, hp, hx, g1, g2, g3⟩ := rx
            split at hd
            · rename_i xs hkk
              split at hd
              · rename_i hm
                cases hd
                have hm' : m = 1 := by simpa using hm
                subst hm'
                obtain ⟨q1, ⟨rfl, rfl⟩, q3⟩ := hv
                obtain ⟨p', hp', hr⟩ := R.hr.obj k _ hkk
                have e : p' = p := Option.some.inj (hp'.symm.trans hp)
                subst e
                have := append_obj_got (ob' := .ints (xs ++ ys)) (n := xs.length) (cap := cap) (c := ys.length) R hu hi hz h0 hzs hby' hkk hp (Rw := fun j u => u = .int .i64 (xs.getD j 0)) (by rw [hs1, Nat.mul_one]; exact hr) g1 (by rw [hs1]; simpa using g3) (by rw [hs1]; exact intsOf_src R hu ry hy q1) q3
                  (fun M ρ' w' p' O hr => ints_appR hs1 hr) o ho hc ha ht (by simpa using hx) rfl
                rw [hs1] at this
                exact this
              · cases hd
            · cases hd
          · cases hd
        · cases hd
      · have hs1 : i.size = 1 := hks.symm
        split at hd
        · rename_i ys vy hy
          split at hd
          · rename_i ex
            cases hd
            rw [ex] at rx
            have := append_nil_got (ob' := .bools ys) R hu hi hz hzs hby' (by rw [hs1]; exact boolsOf_src R hu ry hy hv.1) hv.2.1 hv.2.2 (fun M ρ' w' p' O hr => by
              have hr' := hr
              rw [hs1, Nat.mul_one] at hr'
              refine RowAt.out hr' rfl fun j u hj hu' => ?_
              simp [hj] at hu'
              rw [← hu']; simp [hj]) false o ho hc ha ht rx rfl
            rw [hs1] at this
            exact this
          · rename_i k m off n ex
            rw [ex] at rx
            obtain ⟨p, cap, hp, hx, g1, g2, g3⟩ := rx
            split at hd
            · rename_i xs hkk
              split at hd
              · rename_i hm
                cases hd
                have hm' : m = 1 := by simpa using hm
                subst hm'
                obtain ⟨q1, ⟨rfl, rfl⟩, q3⟩ := hv
                obtain ⟨p', hp', hr⟩ := R.hr.obj k _ hkk
                have e : p' = p := Option.some.inj (hp'.symm.trans hp)
                subst e
                have := append_obj_got (ob' := .bools (xs ++ ys)) (n := xs.length) (cap := cap) (c := ys.length) R hu hi hz h0 hzs hby' hkk hp (Rw := fun j u => u = .bool (xs.getD j false)) (by rw [hs1, Nat.mul_one]; exact hr) g1 (by rw [hs1]; simpa using g3) (by rw [hs1]; exact boolsOf_src R hu ry hy q1) q3
                  (fun M ρ' w' p' O hr => bools_appR hs1 hr) o ho hc ha ht (by simpa using hx) rfl
                rw [hs1] at this
                exact this
              · cases hd
            · cases hd
          · cases hd
        · cases hd
      · rename_i m
        have hsm : i.size = m := hks.symm
        have hm0 : 0 < m := by omega
        split at hd
        · rename_i c g vy hy
          split at hd
          · rename_i ex
            cases hd
            rw [ex] at rx
            obtain ⟨news, hsrc, hnews⟩ := genOf_src R hu ry hm0 hy hv.1.1 hv.1.2
            have := append_nil_got (ob' := .arr m c g) R hu hi hz hzs hby' (by rw [hsm]; exact hsrc) hv.2.1 hv.2.2 (fun M ρ' w' p' O hr => by
              rw [hsm] at hr
              exact RowAt.out hr rfl fun j u hj hu' => RepV.out _ O.nil (hnews j u hu')) false o ho hc ha ht rx rfl
            rw [hsm] at this
            exact this
          · rename_i k m' off n ex
            rw [ex] at rx
            obtain ⟨p, cap, hp, hx, g1, g2, g3⟩ := rx
            split at hd
            · rename_i m2 n2 f hkk
              split at hd
              · rename_i hm
                cases hd
                simp only [Bool.and_eq_true, beq_iff_eq] at hm
                obtain ⟨rfl, rfl⟩ := hm
                obtain ⟨q1, ⟨rfl, rfl⟩, q3⟩ := hv
                obtain ⟨p', hp', hr⟩ := R.hr.obj k _ hkk
                have e : p' = p := Option.some.inj (hp'.symm.trans hp)
                subst e
                obtain ⟨news, hsrc, hnews⟩ := genOf_src R hu ry hm0 hy q1.1 q1.2
                have := append_obj_got (ob' := .arr m2 (n + c) (fun i j => if i < n then f i j else g (i - n) j)) (n := n) (cap := cap) (c := c) R hu hi hz h0 hzs hby' hkk hp (Rw := fun j u => RepV (MS N S.h ρ) w (f (j / m2) (j % m2)) [] u) (by rw [hsm]; exact hr) g1 (by rw [hsm]; simpa using g3) (by rw [hsm]; exact hsrc) q3
                  (fun M ρ' w' p' O hr => by
                    rw [hsm] at hr
                    refine RowAt.out hr rfl fun j u hj hu' => ?_
                    show RepV M w' (if j / m2 < n then f (j / m2) (j % m2) else g (j / m2 - n) (j % m2)) [] u
                    unfold appR at hu'
                    by_cases hlt : j < n * m2
                    · rw [if_pos hlt] at hu'
                      rw [if_pos (by rw [Nat.div_lt_iff_lt_mul hm0]; exact hlt)]
                      exact RepV.out _ O.nil hu'
                    · rw [if_neg hlt] at hu'
                      rw [if_neg (by rw [Nat.div_lt_iff_lt_mul hm0]; exact hlt)]
                      have h1 := hnews _ _ hu'
                      have e1 : (j - n * m2) / m2 = j / m2 - n := by rw [Nat.mul_comm n m2]; exact Nat.sub_mul_div ..
                      have e2 : (j - n * m2) % m2 = j % m2 := by
                        have hj2 : j = (j - n * m2) + n * m2 := by omega
                        rw [hj2, Nat.add_mul_mod_self_right, Nat.add_sub_cancel]
                      rw [e1, e2] at h1
                      exact RepV.out _ O.nil h1) o ho hc ha ht (by simpa using hx) rfl
                rw [hsm] at this
                exact this
              · cases hd
            · cases hd
          · cases hd
        · cases hd
  · cases hd
end
end Go.Proofs.YtekkngkphejfcaaDoor
namespace Go.Proofs.YtekkngkphejfcaaDoor
open Go.RowKit
/-- As the model fills a value's cells, on the view. -/
def fillD (place : Nat → Option (Nat × Nat)) (cells : List DV) : List (Nat × DV) → Option (List DV)
  | [] => some cells
  | (i, d) :: rest => match place i with
    | none => none
    | some (off, size) => match dcells d with
      | none => none
      | some l => if l.length = size ∧ off + l.length ≤ cells.length then fillD place (splice cells off l) rest else none
def placesB (P : Program) (t : TypeId) : Option (Value × (Nat → Option (Nat × Nat))) := match P.info? t with
  | some it => match P.underlying t with
    | some (.array _ e) => match it.zero with
      | some z => match P.info? e with
        | some ie => some (z, fun i => some (i * ie.size, ie.size))
        | none => none
      | none => none
    | some (.struct fields) => match it.zero with
      | some z => match fields.toList.mapM (fun f => (P.info? f.type).map fun i => (f.offset, i.size)) with
        | some places => some (z, fun i => places.toArray[i]?)
        | none => none
      | none => none
    | _ => none
  | none => none
def litD (P : Program) (S : St) (t : TypeId) (parts : List (Nat × Operand)) : Option (DV × Prop) := match placesB P t with
  | some (z, place) => match fillD place (z.cells.toList.map ofV) (parts.map fun x => (x.1, opd S.fr x.2)) with
    | some l => some (.agg l.length (fun j => l.getD j .any), True)
    | none => none
  | none => none
def partD (P : Program) (t : TypeId) (m : Nat) (f : Nat → DV) (off size : Nat) : Option DV :=
  if off + size ≤ m then (if oneB P t then (if size = 1 then some (f off) else none) else if aggB P t size then some (.agg size (tab size fun j => f (off + j))) else none) else none
def ixD (P : Program) (t : TypeId) (x : DV) (n : Int) : Option (DV × Prop) := match x with
  | .agg m f => match P.underlying t with
    | some (.array len e) => match P.info? e with
      | some i => if oneB P e && i.size == 1 && len == m then some (f n.toNat, 0 ≤ n ∧ n < len) else none
      | none => none
    | _ => none
  | _ => none
def fldD (P : Program) (t : TypeId) (x : DV) (fi : Nat) : Option (DV × Prop) := match x with
  | .agg m f => match P.underlying t with
    | some (.struct fs) => match fs[fi]? with
      | some fd => match P.info? fd.type with
        | some i => match partD P fd.type m f fd.offset i.size with
          | some d => some (d, True)
          | none => none
        | none => none
      | none => none
    | _ => none
  | _ => none
def cutD (P : Program) (t : TypeId) (x : DV) (lo hi : Option Int) : Option (DV × Prop) := match P.underlying t with
  | some (.slice e) => match P.info? e with
    | some i => match x with
      | .ints l => if i.size = 1 then some (.ints ((l.take (hi.getD l.length).toNat).drop (lo.getD 0).toNat), 0 ≤ lo.getD 0 ∧ lo.getD 0 ≤ hi.getD l.length ∧ hi.getD l.length ≤ l.length) else none
      | .bools l => if i.size = 1 then some (.bools ((l.take (hi.getD l.length).toNat).drop (lo.getD 0).toNat), 0 ≤ lo.getD 0 ∧ lo.getD 0 ≤ hi.getD l.length ∧ hi.getD l.length ≤ l.length) else none
      | .sl m n f => if i.size = m then some (.sl m ((hi.getD n).toNat - (lo.getD 0).toNat) (fun i j => f ((lo.getD 0).toNat + i) j), 0 ≤ lo.getD 0 ∧ lo.getD 0 ≤ hi.getD n ∧ hi.getD n ≤ n) else none
      | .msl k m off n => if i.size = m then some (.mse k m (off + (lo.getD 0).toNat) ((hi.getD n).toNat - (lo.getD 0).toNat), 0 ≤ lo.getD 0 ∧ lo.getD 0 ≤ hi.getD n ∧ hi.getD n ≤ n) else none
      | _ => none
    | none => none
  | _ => none
def intO (S : St) : Option Operand → Option (Option Int)
  | none => some none
  | some x => match opd S.fr x with
    | .int _ n => some (some n)
    | _ => none
/-- Arrays of integers compared. -/
def eqAll (f g : Nat → DV) : List Nat → Bool
  | [] => true
  | i :: is => (intD (f i) == intD (g i)) && eqAll f g is
def eqaB (P : Program) (t : TypeId) (f g : Nat → DV) (m m' : Nat) : Option (List Nat) := match P.underlying t with
  | some (.array n e) => match P.info? e with
    | some i => match P.underlying e with
      | some (.int _) => if i.size == 1 && oneB P e && P.eqGuardType P.depth t == false && n == m && n == m' && (List.range n).all (fun i => isI (f i) && isI (g i)) then some (List.range n) else none
      | _ => none
    | none => none
  | _ => none
def eqaD (P : Program) (op : BinOp) (t : TypeId) (x y : DV) : Option (DV × Prop) := match op, x, y with
  | .eql, .agg m f, .agg m' g => match eqaB P t f g m m' with
    | some is => some (.bool (eqAll f g is), True)
    | none => none
  | .neq, .agg m f, .agg m' g => match eqaB P t f g m m' with
    | some is => some (.bool (!(eqAll f g is)), True)
    | none => none
  | _, _, _ => none
/-- All that only reads and reckons. -/
def pops (P : Program) (S : St) : Op → Option (DV × Prop)
  | .build t parts => litD P S t parts.toList
  | .index t x i => match opd S.fr i with
    | .int _ n => ixD P t (opd S.fr x) n
    | _ => none
  | .field t x f => fldD P t (opd S.fr x) f
  | .slice t x lo hi none => match intO S lo with
    | some l => match intO S hi with
      | some h => cutD P t (opd S.fr x) l h
      | none => none
    | none => none
  | .binOp op t x y t' => match eqaD P op t (opd S.fr x) (opd S.fr y) with
    | some r => some r
    | none => pop P S (.binOp op t x y t')
  | op => pop P S op
section
variable {P : Program} {Γ : Glo} {N : Nat → Prop} {S : St} {ρ : List Place} {a : Act} {w : World}
def CellsRep (M : Nat → Prop) (w : World) (ρ : List Place) (l : List DV) (cs : Array Value) : Prop := cs.size = l.length ∧ ∀ j, j < l.length → ∃ u, cs[j]? = some u ∧ RepV M w (l.getD j .any) ρ u
theorem arr_splice : ∀ (vs : List Value) (k off : Nat) (cs : Array Value), ((vs.zipIdx k).foldl (fun (cs : Array Value) (x : Value × Nat) => cs.setIfInBounds (off + x.2) x.1) cs).size = cs.size ∧
    ∀ j, ((vs.zipIdx k).foldl (fun (cs : Array Value) (x : Value × Nat) => cs.setIfInBounds (off + x.2) x.1) cs)[j]? = if off + k ≤ j ∧ j < off + k + vs.length ∧ j < cs.size then vs[j - (off + k)]? else cs[j]?
  | [], k, off, cs => ⟨rfl, fun j => by rw [if_neg]; · rfl
                                        · simp only [List.length_nil]; omega⟩
  | v :: vs, k, off, cs => by
    obtain ⟨h1, h2⟩ := arr_splice vs (k + 1) off (cs.setIfInBounds (off + k) v)
    rw [List.zipIdx_cons, List.foldl_cons]
    refine ⟨by rw [h1]; simp, fun j => ?_⟩
    rw [h2 j, List.length_cons]
    simp only [Array.size_setIfInBounds]
    by_cases e : j = off + k
    · subst e
      rw [if_neg (by omega), Array.getElem?_setIfInBounds, if_pos rfl]
      by_cases hs : off + k < cs.size
      · rw [if_pos hs, if_pos (by omega), Nat.sub_self]; rfl
      · rw [if_neg hs, if_neg (by omega), Array.getElem?_eq_none (by omega)]
    · by_cases e2 : off + (k + 1) ≤ j ∧ j < off + (k + 1) + vs.length ∧ j < cs.size
      · rw [if_pos e2, if_pos (by omega), show j - (off + k) = (j - (off + (k + 1))) + 1 by omega]; simp
      · rw [if_neg e2, if_neg (by omega), Array.getElem?_setIfInBounds, if_neg (by omega)]
theorem fill_sound {M : Nat → Prop} {place : Nat → Option (Nat × Nat)} : ∀ (parts : List (Nat × Operand)) (l : List DV) (cs : Array Value) (r : List DV), CellsRep M w ρ l cs → (∀ x, RepV M w (opd S.fr x) ρ (a.eval x)) →
    fillD place l (parts.map fun x => (x.1, opd S.fr x.2)) = some r → ∃ rs, Instr.fill place cs (parts.map fun x => (x.1, a.eval x.2)) = some rs ∧ CellsRep M w ρ r rs
  | [], l, cs, r, hc, _, h => by cases h; exact ⟨cs, rfl, hc⟩
  | (i, x) :: rest, l, cs, r, hc, hr, h => by
    simp only [List.map_cons, fillD] at h
    split at h
    · cases h
    · rename_i off size hpl
      split at h
      · cases h
      · rename_i ds hds
        split at h
        · rename_i hsz
          obtain ⟨c1, c2⟩ := dcells_spec hds (hr x)
          have hlen : (a.eval x).cells.size = size := by rw [c1, hsz.1]
          have hfit : ¬ (off + (a.eval x).cells.size > cs.size) := by rw [c1, hc.1]; omega
          obtain ⟨s1, s2⟩ := arr_splice (a.eval x).cells.toList 0 off cs
          have hnew : CellsRep M w ρ (splice l off ds) ((a.eval x).cells.zipIdx.foldl (fun cs (c, j) => cs.setIfInBounds (off + j) c) cs) := by
            have e0 : ((a.eval x).cells.zipIdx.foldl (fun cs (c, j) => cs.setIfInBounds (off + j) c) cs) = (((a.eval x).cells.toList.zipIdx 0).foldl (fun (cs : Array Value) (x : Value × Nat) => cs.setIfInBounds (off + x.2) x.1) cs) := by
              rw [← Array.foldl_toList]; simp
            rw [e0]
            refine ⟨by rw [s1, splice_length, hc.1], fun j hj => ?_⟩
            rw [splice_length] at hj
            rw [s2 j, splice_get l off ds hj]
            by_cases e : off ≤ j ∧ j < off + ds.length
            · rw [if_pos (by simp; rw [c1, hc.1]; omega), if_pos e]
              obtain ⟨u, g1, g2⟩ := c2 (j - off) (by omega)
              exact ⟨u, by simpa using g1, g2⟩
            · rw [if_neg (by simp; rw [c1]; omega), if_neg e]
              exact hc.2 j hj
          obtain ⟨rs, g1, g2⟩ := fill_sound rest _ _ r hnew hr h
          refine ⟨rs, ?_, g2⟩
          simp only [List.map_cons, Instr.fill, hpl]
          rw [if_neg (by simp only [Bool.or_eq_true, decide_eq_true_eq]; omega)]
          exact g1
        · cases h
theorem placesB_spec {t : TypeId} {z : Value} {place : Nat → Option (Nat × Nat)} (h : placesB P t = some (z, place)) (parts : List (Nat × Value)) : P.built t parts = Instr.fill place z.cells parts := by
  unfold placesB at h
  unfold Program.built
  repeat' (split at h)
  all_goals first
    | (cases h; done)
    | (cases h; simp_all)
theorem litD_sound (R : Rel P Γ N S ρ a w) {t : TypeId} {parts : Array (Nat × Operand)} {d : DV} {vc : Prop} (h : litD P S t parts.toList = some (d, vc)) : Yl P N w (MS N S.h ρ) ρ (Instr.build t (parts.map fun (i, x) => (i, a.eval x))) d := by
  unfold litD at h
  split at h
  · rename_i z place hp
    split at h
    · rename_i l hl
      cases h
      have h0 : CellsRep (MS N S.h ρ) w ρ (z.cells.toList.map ofV) z.cells := ⟨by simp, fun j hj => by
        have hj' : j < z.cells.size := by simpa using hj
        exact ⟨z.cells[j], by simp [hj'], by
          have : (z.cells.toList.map ofV).getD j .any = ofV z.cells[j] := by simp [hj']
          rw [this]; exact ofV_rep _⟩⟩
      obtain ⟨rs, g1, g2, g3⟩ := fill_sound parts.toList _ _ _ h0 (opd_rep R) hl
      refine Yl.pure (v := .agg rs) (fun W => run_build W t _ rs ?_) ⟨rs, rfl, g2, g3⟩
      rw [placesB_spec hp]
      have e1 : (parts.map fun (i, x) => (i, a.eval x)).toList = parts.toList.map fun x => (x.1, a.eval x.2) := by simp
      rw [e1]; exact g1
    · cases h
  · cases h
theorem run_part {t : TypeId} {cs : Array Value} {off size m : Nat} {f : Nat → DV} {d : DV} {M : Nat → Prop} {i : TypeInfo} (hi : P.info? t = some i) (hsz : i.size = size) (hcs : cs.size = m) (hr : ∀ j, j < m → ∃ u, cs[j]? = some u ∧ RepV M w (f j) ρ u) (h : partD P t m f off size = some d) : Yl P N w M ρ (part t cs off) d := by
  unfold partD at h
  split at h
  · rename_i hle
    split at h
    · rename_i h1
      split at h
      · rename_i hs
        cases h
        obtain ⟨u, g1, g2⟩ := hr off (by omega)
        unfold oneB at h1
        simp only [Bool.and_eq_true, Option.isSome_iff_exists, Bool.not_eq_true'] at h1
        obtain ⟨⟨dd, hd⟩, hn⟩ := h1
        refine Yl.pure (v := u) (fun W => ?_) g2
        unfold part
        rw [Sem.run_bind, run_isAgg' hd]
        simp [Result.andThen, hn, g1]
      · cases h
    · split at h
      · rename_i h2
        cases h
        obtain ⟨h3, i', hi', hs'⟩ := aggB_spec h2
        have ei : i' = i := Option.some.inj (hi'.symm.trans hi)
        subst ei
        obtain ⟨dd, hd⟩ := isAggB_some h3
        refine Yl.pure (v := .agg (cs.extract off (off + size))) (fun W => ?_) ⟨_, rfl, by simp; omega, fun j hj => ?_⟩
        · unfold part
          rw [Sem.run_bind, run_isAgg' hd]
          simp only [Result.andThen, h3, if_true]
          rw [Sem.run_bind, run_sizeOf' hi, hsz]
          rfl
        · obtain ⟨u, g1, g2⟩ := hr (off + j) (by omega)
          refine ⟨u, ?_, tab_rep hj g2⟩
          rw [Array.getElem?_extract]
          rw [if_pos (by omega)]
          exact g1
      · cases h
  · cases h
theorem ixD_sound (R : Rel P Γ N S ρ a w) {t : TypeId} {x d : DV} {vc : Prop} {v : Value} {k : IntKind} {n : Int} (hx : RepV (MS N S.h ρ) w x ρ v) (h : ixD P t x n = some (d, vc)) (hv : vc) : Yl P N w (MS N S.h ρ) ρ (Instr.index t v (.int k n)) d := by
  unfold ixD at h
  split at h
  · rename_i m f
    obtain ⟨cs, rfl, hs, hr⟩ := hx
    split at h
    · rename_i len e hu
      split at h
      · rename_i i hi
        split at h
        · rename_i hc
          cases h
          simp only [Bool.and_eq_true, beq_iff_eq] at hc
          obtain ⟨⟨h1, h2⟩, rfl⟩ := hc
          have hp : partD P e len f n.toNat 1 = some (f n.toNat) := by
            unfold partD
            rw [if_pos (by omega), if_pos h1, if_pos rfl]
          obtain ⟨u, g1, g2⟩ := run_part (P := P) hi h2 hs hr hp
          refine ⟨u, fun W hE => ?_, g2⟩
          unfold Instr.index
          simp only [asIntOf, Sem.run_bind, Sem.run_pure, Result.andThen, run_underlying hu]
          rw [if_pos ⟨hv.1, hv.2⟩]
          simp only [Sem.run_bind, run_sizeOf' hi, Result.andThen, h2, Nat.mul_one]
          exact g1 W hE
        · cases h
      · cases h
    · cases h
  · cases h
theorem fldD_sound (R : Rel P Γ N S ρ a w) {t : TypeId} {x d : DV} {vc : Prop} {v : Value} {fi : Nat} (hx : RepV (MS N S.h ρ) w x ρ v) (h : fldD P t x fi = some (d, vc)) : Yl P N w (MS N S.h ρ) ρ (Instr.field t v fi) d := by
  unfold fldD at h
  split at h
  · rename_i m f
    obtain ⟨cs, rfl, hs, hr⟩ := hx
    split at h
    · rename_i fs hu
      split at h
      · rename_i fd hf
        split at h
        · rename_i i hi
          split at h
          · rename_i d' hp
            cases h
            obtain ⟨u, g1, g2⟩ := run_part (P := P) hi rfl hs hr hp
            refine ⟨u, fun W hE => ?_, g2⟩
            unfold Instr.field
            simp only [Sem.run_bind, run_underlying hu, Result.andThen, hf, asAgg, Sem.run_pure]
            exact g1 W hE
          · cases h
        · cases h
      · cases h
    · cases h
  · cases h
theorem run_bound {k : IntKind} {n : Int} {y : Nat} {c : BoundsCode} (h0 : 0 ≤ n) (h1 : n ≤ y) (W : World) : (Instr.sliceBound (.int k n) y c).run P W = .ok n.toNat W := by
  unfold Instr.sliceBound
  simp only [asIntOf, Sem.run_bind, Sem.run_pure, Result.andThen]
  rw [if_pos ⟨h0, h1⟩]; rfl
theorem intO_rep (R : Rel P Γ N S ρ a w) {o : Option Operand} {l : Option Int} (h : intO S o = some l) : ∃ k, o.map a.eval = l.map (Value.int k) := by
  cases o with
  | none => cases h; exact ⟨.i64, rfl⟩
  | some x =>
    simp only [intO] at h
    split at h
    · rename_i k n e
      cases h
      have := opd_rep R x
      rw [e] at this
      exact ⟨k, by simp only [Option.map_some]; rw [show a.eval x = _ from this]⟩
    · cases h
theorem run_cut {t e : TypeId} {i : TypeInfo} {ad : Option Addr} {len cap : Nat} {kl kh : IntKind} {lo hi : Option Int} (hu : P.underlying t = some (.slice e)) (hi' : P.info? e = some i) (h0 : 0 ≤ lo.getD 0) (h1 : lo.getD 0 ≤ hi.getD len) (h2 : hi.getD len ≤ len) (h3 : len ≤ cap) (W : World) :
    (Instr.sliceAt t (.slice ad len cap) (lo.map (Value.int kl)) (hi.map (Value.int kh)) none).run P W =
      .ok (.slice (if cap = (lo.getD 0).toNat then ad else ad.map (·.add ((lo.getD 0).toNat * i.size))) ((hi.getD len).toNat - (lo.getD 0).toNat) (cap - (lo.getD 0).toNat)) W := by
  have hb : (Instr.sliceBounds true len cap (lo.map (Value.int kl)) (hi.map (Value.int kh)) none).run P W = .ok ((lo.getD 0).toNat, (hi.getD len).toNat, cap) W := by
    cases lo <;> cases hi <;> simp only [Option.map_none, Option.map_some, Option.getD_none, Option.getD_some] at * <;>
      simp (disch := omega) [Instr.sliceBounds, run_bound, Sem.run_bind, Result.andThen]
  unfold Instr.sliceAt
  simp only [Sem.run_bind, run_underlying hu, Result.andThen]
  unfold Instr.slice
  simp only [Sem.run_bind, run_underlying hu, Result.andThen, hb, run_sizeOf' hi']
  rfl
theorem cutD_sound (R : Rel P Γ N S ρ a w) {t : TypeId} {x d : DV} {vc : Prop} {v : Value} {kl kh : IntKind} {lo hi : Option Int} (hx : RepV (MS N S.h ρ) w x ρ v) (h : cutD P t x lo hi = some (d, vc)) (hv : vc) :
    Yl P N w (MS N S.h ρ) ρ (Instr.sliceAt t v (lo.map (Value.int kl)) (hi.map (Value.int kh)) none) d := by
  unfold cutD at h
  split at h
  · rename_i e hu
    split at h
    · rename_i i hi'
      have gd : ∀ {α : Type} (l : List α) (q c j : Nat) (d : α), j < ((l.take c).drop q).length → ((l.take c).drop q).getD j d = l.getD (q + j) d := fun l q c j d hj => by
        simp only [List.length_drop, List.length_take] at hj
        simp only [List.getD_eq_getElem?_getD, List.getElem?_drop, List.getElem?_take]
        rw [if_pos (by omega)]
      split at h
      · rename_i l
        split at h
        · rename_i hs
          cases h
          obtain ⟨ad, cap, rfl, g1, g2, g3⟩ := hx
          obtain ⟨v1, v2, v3⟩ := hv
          have hl : ((l.take (hi.getD l.length).toNat).drop (lo.getD 0).toNat).length = (hi.getD l.length).toNat - (lo.getD 0).toNat := by simp; omega
          refine Yl.pure (fun W => run_cut hu hi' v1 v2 v3 g1 W) ⟨_, _, by rw [hl], by omega, by omega, fun j hj => ?_⟩
          have hj' := hj
          rw [hl] at hj'
          obtain ⟨b, o, rfl, q1, q2⟩ := g3 ((lo.getD 0).toNat + j) (by omega)
          refine ⟨b, o + (lo.getD 0).toNat, ?_, q1, ?_⟩
          · rw [if_neg (by omega)]; simp only [Option.map_some, add_none, hs, Nat.mul_one]
          · rw [gd _ _ _ _ _ hj, Nat.add_assoc]; exact q2
        · cases h
      · rename_i l
        split at h
        · rename_i hs
          cases h
          obtain ⟨ad, cap, rfl, g1, g2, g3⟩ := hx
          obtain ⟨v1, v2, v3⟩ := hv
          have hl : ((l.take (hi.getD l.length).toNat).drop (lo.getD 0).toNat).length = (hi.getD l.length).toNat - (lo.getD 0).toNat := by simp; omega
          refine Yl.pure (fun W => run_cut hu hi' v1 v2 v3 g1 W) ⟨_, _, by rw [hl], by omega, by omega, fun j hj => ?_⟩
          have hj' := hj
          rw [hl] at hj'
          obtain ⟨b, o, rfl, q1, q2⟩ := g3 ((lo.getD 0).toNat + j) (by omega)
          refine ⟨b, o + (lo.getD 0).toNat, ?_, q1, ?_⟩
          · rw [if_neg (by omega)]; simp only [Option.map_some, add_none, hs, Nat.mul_one]
          · rw [gd _ _ _ _ _ hj, Nat.add_assoc]; exact q2
        · cases h
      · rename_i m n f
        split at h
        · rename_i hs
          cases h
          obtain ⟨ad, cap, rfl, g1, g2, g3⟩ := hx
          obtain ⟨v1, v2, v3⟩ := hv
          refine Yl.pure (fun W => run_cut hu hi' v1 v2 v3 g1 W) ⟨_, _, rfl, by omega, by omega, fun i1 j hi1 hj => ?_⟩
          obtain ⟨b, o, u, rfl, q1, q2, q3⟩ := g3 ((lo.getD 0).toNat + i1) j (by omega) hj
          refine ⟨b, o + (lo.getD 0).toNat * m, u, ?_, q1, ?_, q3⟩
          · rw [if_neg (by omega)]; simp only [Option.map_some, add_none, hs]
          · rw [Nat.add_mul, Nat.add_assoc] at q2; rw [Nat.add_assoc]; exact q2
        · cases h
      · rename_i k m off n
        split at h
        · rename_i hs
          cases h
          obtain ⟨p, cap, hp, rfl, g1, g2, g3⟩ := hx
          obtain ⟨v1, v2, v3⟩ := hv
          have hle : (lo.getD 0).toNat ≤ cap := by omega
          refine Yl.pure (fun W => run_cut hu hi' v1 v2 v3 g1 W) ⟨p, _, cap - (lo.getD 0).toNat, hp, rfl, by omega, by omega, fun hc => ⟨?_, ?_⟩⟩
          · rw [if_neg (by omega)]; simp only [Option.map_some, add_none, hs, Nat.add_mul, Nat.add_assoc]
          · have : cap * m = (lo.getD 0).toNat * m + (cap - (lo.getD 0).toNat) * m := by rw [← Nat.add_mul]; congr 1; omega
            rw [Nat.add_mul]; omega
        · cases h
      · cases h
    · cases h
  · cases h
theorem run_eqItems_ints {e : TypeId} {k' : IntKind} {i : TypeInfo} {n d : Nat} {xs ys : Array Value} {f g : Nat → DV} {M : Nat → Prop} (hi : P.info? e = some i) (hs : i.size = 1) (h1 : oneB P e = true) (hk : P.underlying e = some (.int k')) (hx : xs.size = n) (hy : ys.size = n)
    (rx : ∀ j, j < n → ∃ u, xs[j]? = some u ∧ RepV M w (f j) ρ u) (ry : ∀ j, j < n → ∃ u, ys[j]? = some u ∧ RepV M w (g j) ρ u) (hI : ∀ j, j < n → isI (f j) = true ∧ isI (g j) = true) :
    ∀ (is : List Nat), (∀ j ∈ is, j < n) → ∀ W, Keep N w W → (Op.eqItems (d + 1) e 1 xs ys is).run P W = .ok (eqAll f g is) W
  | [], _, W, _ => rfl
  | j :: is, hb, W, hE => by
    have hj : j < n := hb j (by simp)
    have part1 : ∀ {cs : Array Value} {f : Nat → DV}, cs.size = n → (∀ j, j < n → ∃ u, cs[j]? = some u ∧ RepV M w (f j) ρ u) → isI (f j) = true → (part e cs (j * 1)).run P W = .ok (.int .i64 (intD (f j))) W := by
      intro cs f hc hr hf
      have hp : partD P e n f (j * 1) 1 = some (f j) := by
        unfold partD
        rw [if_pos (by omega), if_pos h1, if_pos rfl, Nat.mul_one]
      obtain ⟨u, g1, g2⟩ := run_part (P := P) hi hs hc hr hp
      rw [g1 W hE, isI_spec hf g2]
    simp only [Op.eqItems, Sem.run_bind, part1 hx rx (hI j hj).1, part1 hy ry (hI j hj).2, Result.andThen, run_equalIn_int W d e .i64 k' _ _ hk]
    unfold eqAll
    cases hq : (intD (f j) == intD (g j)) with
    | false => rfl
    | true =>
      simp only [Bool.not_true, Bool.false_eq_true, if_false, Bool.true_and]
      exact run_eqItems_ints hi hs h1 hk hx hy rx ry hI is (fun j hj => hb j (by simp [hj])) W hE
theorem eqaD_sound {M : Nat → Prop} {op : BinOp} {t : TypeId} {x y : DV} {vx vy : Value} {d : DV} {vc : Prop} (ox oy : Operand) (hx : RepV M w x ρ vx) (hy : RepV M w y ρ vy) (h : eqaD P op t x y = some (d, vc)) :
    Yl P N w M ρ (do eqGuard op t ox oy vx vy; binOp op t vx vy) d := by
  have key : ∀ {m m' : Nat} {f g : Nat → DV} {is : List Nat} {xs ys : Array Value}, eqaB P t f g m m' = some is → xs.size = m → ys.size = m' → (∀ j, j < m → ∃ u, xs[j]? = some u ∧ RepV M w (f j) ρ u) → (∀ j, j < m' → ∃ u, ys[j]? = some u ∧ RepV M w (g j) ρ u) →
      P.eqGuardType P.depth t = false ∧ ∀ W, Keep N w W → (Op.equalIn 10000 t (.agg xs) (.agg ys)).run P W = .ok (eqAll f g is) W := by
    intro m m' f g is xs ys hb sx sy rx ry
    unfold eqaB at hb
    split at hb
    · rename_i n e hu
      split at hb
      · rename_i i hi
        split at hb
        · rename_i k' hk
          split at hb
          · rename_i hc
            cases hb
            simp only [Bool.and_eq_true, beq_iff_eq, List.all_eq_true, List.mem_range] at hc
            obtain ⟨⟨⟨⟨⟨c1, c2⟩, c3⟩, c4⟩, c5⟩, c6⟩ := hc
            subst c4; subst c5
            refine ⟨c3, fun W hE => ?_⟩
            have hcell : P.cellsOf e = 1 := by unfold Program.cellsOf; rw [hi]; exact c1
            rw [run_equalIn_array W 9999 xs ys hu hi, hcell]
            exact run_eqItems_ints (d := 9998) hi c1 c2 hk sx sy rx ry c6 _ (fun j hj => List.mem_range.1 hj) W hE
          · cases hb
        · cases hb
      · cases hb
    · cases hb
  unfold eqaD at h
  split at h
  · rename_i m f m' g
    split at h
    · rename_i is hb
      cases h
      obtain ⟨xs, rfl, sx, rx⟩ := hx
      obtain ⟨ys, rfl, sy, ry⟩ := hy
      obtain ⟨k1, k2⟩ := key hb sx sy rx ry
      refine ⟨.bool _, fun W hE => ?_, rfl⟩
      simp only [Sem.run_bind, run_eqGuard_agg W .eql t ox oy xs ys k1, Result.andThen, run_eql_struct, k2 W hE]
    · cases h
  · rename_i m f m' g
    split at h
    · rename_i is hb
      cases h
      obtain ⟨xs, rfl, sx, rx⟩ := hx
      obtain ⟨ys, rfl, sy, ry⟩ := hy
      obtain ⟨k1, k2⟩ := key hb sx sy rx ry
      refine ⟨.bool _, fun W hE => ?_, rfl⟩
      simp only [Sem.run_bind, run_eqGuard_agg W .neq t ox oy xs ys k1, Result.andThen, run_neq_struct, k2 W hE]
    · cases h
  · cases h
theorem pops_sound (R : Rel P Γ N S ρ a w) (o : Oper) {d : DV} {vc : Prop} (h : pops P S o.op = some (d, vc)) (hv : vc) :
    ∃ v, (∀ W, Keep N w W → (execOp a.eval o).run P W = .ok (.value v) W) ∧ RepV (MS N S.h ρ) w d ρ v := by
  unfold pops at h
  split at h
  · rename_i t parts ho
    exact execOp_value (by unfold execOp; rw [ho]) (litD_sound R h)
  · rename_i t x i ho
    have hi := opd_rep R i
    split at h
    · rename_i k n e
      rw [e] at hi
      refine execOp_value (s := Instr.index t (a.eval x) (a.eval i)) (by unfold execOp; rw [ho]) ?_
      rw [show a.eval i = _ from hi]
      exact ixD_sound R (opd_rep R x) h hv
    · cases h
  · rename_i t x f ho
    exact execOp_value (s := Instr.field t (a.eval x) f) (by unfold execOp; rw [ho]) (fldD_sound R (opd_rep R x) h)
  · rename_i t x lo hi ho
    split at h
    · rename_i l hl
      split at h
      · rename_i hh hhh
        obtain ⟨k1, e1⟩ := intO_rep R hl
        obtain ⟨k2, e2⟩ := intO_rep R hhh
        refine execOp_value (s := Instr.sliceAt t (a.eval x) (lo.map a.eval) (hi.map a.eval) none) (by unfold execOp; rw [ho]; rfl) ?_
        rw [e1, e2]
        exact cutD_sound R (opd_rep R x) h hv
      · cases h
    · cases h
  · rename_i op t x y t' ho
    split at h
    · rename_i r hr
      cases h
      exact execOp_value (by unfold execOp; rw [ho]) (eqaD_sound x y (opd_rep R x) (opd_rep R y) hr)
    · rw [← ho] at h; exact pop_sound R o h hv
  · exact pop_sound R o h hv
end
end Go.Proofs.YtekkngkphejfcaaDoor
namespace Go.Proofs.YtekkngkphejfcaaDoor
open Go.RowKit
def allP : List Prop → Prop
  | [] => True
  | p :: ps => p ∧ allP ps
theorem allP_append {l l' : List Prop} : allP (l ++ l') ↔ allP l ∧ allP l' := by
  induction l with
  | nil => simp [allP]
  | cons p ps ih => simp [allP, ih, and_assoc]
/-- One value of the view says no more than another. -/
def DLe (d d' : DV) : Prop := ∀ (M : Nat → Prop) (w : World) (ρ : List Place) (v : Value), RepV M w d ρ v → RepV M w d' ρ v
section
variable {P : Program} {Γ : Glo} {N : Nat → Prop}
theorem out_iff {w : World} {M M' : Nat → Prop} (h : ∀ b, M' b → M b) (ρ : List Place) : Outl M w ρ M' w ρ := ⟨fun _ _ _ _ => rfl, fun b hb => .inl (h b hb), fun _ _ h => h⟩
/-- A row that nobody writes any more becomes a list. -/
def frzV : DO → Option (Nat × Nat × DV)
  | .ints l => some (1, l.length, .ints l)
  | .bools l => some (1, l.length, .bools l)
  | .arr m n f => some (m, n, .sl m n f)
  | _ => none
def frzD (k m : Nat) (v : DV) : DV → DV
  | .msl k' m' off n => if k' = k ∧ m' = m ∧ off = 0 then v else .msl k' m' off n
  | d => d
def frzC (k m n : Nat) : DV → List Prop
  | .msl k' m' off n' => if k' = k ∧ m' = m ∧ off = 0 then [n' = n] else []
  | _ => []
def frzO (k m : Nat) (v : DV) : Option DO → Option DO
  | some (.cells l) => some (.cells (l.map (frzD k m v)))
  | o => o
def frzCO (k m n : Nat) : Option DO → List Prop
  | some (.cells l) => l.flatMap (frzC k m n)
  | _ => []
def frzS (k m : Nat) (v : DV) (S : St) : St := ⟨S.fr.map (frzD k m v), (S.h.set k none).map (frzO k m v)⟩
theorem allP_mem {l : List DV} {f : DV → List Prop} (h : allP (l.flatMap f)) {d : DV} (hd : d ∈ l) : allP (f d) := by
  induction l with
  | nil => simp at hd
  | cons x l ih =>
    rw [List.flatMap_cons] at h
    obtain ⟨h1, h2⟩ := allP_append.1 h
    rcases List.mem_cons.1 hd with rfl | hd
    · exact h1
    · exact ih h2 hd
theorem allP_memO {l : List (Option DO)} {f : Option DO → List Prop} (h : allP (l.flatMap f)) {d : Option DO} (hd : d ∈ l) : allP (f d) := by
  induction l with
  | nil => simp at hd
  | cons x l ih =>
    rw [List.flatMap_cons] at h
    obtain ⟨h1, h2⟩ := allP_append.1 h
    rcases List.mem_cons.1 hd with rfl | hd
    · exact h1
    · exact ih h2 hd
theorem frzV_rep {M M' : Nat → Prop} {w : World} {ρ : List Place} {p : Place} {o : DO} {m n : Nat} {v : DV} (ho : frzV o = some (m, n, v)) (hr : ObjRep P M w ρ p o) (hN : ¬ M' p.blk) (hM : ∀ b, M' b → M b) {u : Value} {cap : Nat} (hu : u = .slice (some ⟨p.blk, p.off + 0 * m, none⟩) n cap) (h1 : n ≤ cap) (h2 : n ≤ LB) : RepV M' w v ρ u := by
  cases o with
  | cells l => cases ho
  | iter e => cases ho
  | mo x => cases ho
  | ints l =>
    cases ho
    refine ⟨_, cap, hu, h1, h2, fun j hj => ⟨p.blk, p.off, by simp, hN, ?_⟩⟩
    obtain ⟨x, e1, e2⟩ := RowAt.cell hr hj
    rw [e1, e2]
  | bools l =>
    cases ho
    refine ⟨_, cap, hu, h1, h2, fun j hj => ⟨p.blk, p.off, by simp, hN, ?_⟩⟩
    obtain ⟨x, e1, e2⟩ := RowAt.cell hr hj
    rw [e1, e2]
  | arr m n f =>
    cases ho
    refine ⟨_, cap, hu, h1, h2, fun i j hi hj => ?_⟩
    have hlt : i * m + j < n * m := Nat.lt_of_lt_of_le (by rw [Nat.succ_mul]; omega : i * m + j < (i + 1) * m) (Nat.mul_le_mul_right m hi)
    obtain ⟨x, e1, e2⟩ := RowAt.cell hr hlt
    have hm : 0 < m := by omega
    have d1 : (i * m + j) / m = i := by rw [Nat.mul_comm, Nat.mul_add_div hm]; simp [Nat.div_eq_of_lt hj]
    have d2 : (i * m + j) % m = j := by rw [Nat.mul_comm, Nat.mul_add_mod]; exact Nat.mod_eq_of_lt hj
    rw [d1, d2] at e2
    exact ⟨p.blk, p.off, x, by simp, hN, e1, RepV.out _ (out_iff hM []) e2⟩
theorem frzV_foot {M : Nat → Prop} {w : World} {ρ : List Place} {p : Place} {o : DO} {m n : Nat} {v : DV} (ho : frzV o = some (m, n, v)) (hr : ObjRep P M w ρ p o) : p.foot = fun b => b = p.blk := by
  cases o with
  | cells l => cases ho
  | iter e => cases ho
  | mo x => cases ho
  | ints l => exact hr.1
  | bools l => exact hr.1
  | arr m n f => exact hr.1
theorem frz_get {k m : Nat} {v : DV} {h : DH} {i : Nat} {o' : DO} (hi : ((h.set k none).map (frzO k m v))[i]? = some (some o')) : i ≠ k ∧ ∃ o, h[i]? = some (some o) ∧ frzO k m v (some o) = some o' := by
  rw [List.getElem?_map] at hi
  cases hx : (h.set k none)[i]? with
  | none => rw [hx] at hi; cases hi
  | some x =>
    rw [hx] at hi
    have hi : frzO k m v x = some o' := Option.some.inj hi
    cases x with
    | none => cases hi
    | some o => exact ⟨(get_kill hx).1, o, (get_kill hx).2, hi⟩
/-- A state says no more than another, places as they are. -/
def SLp (S S' : St) : Prop := ∀ (P : Program) (Γ : Glo) (N : Nat → Prop) (ρ : List Place) (a : Act) (w : World), Rel P Γ N S ρ a w → Rel P Γ N S' ρ a w ∧ Step S.h ρ w S'.h ρ w
theorem SLp.frz {S : St} (k : Nat) {o : DO} {m n : Nat} {v : DV} (hk : S.h[k]? = some (some o)) (ho : frzV o = some (m, n, v)) (hc : allP (S.fr.flatMap (frzC k m n))) (hc2 : allP (S.h.flatMap (frzCO k m n))) : SLp S (frzS k m v S) := fun P Γ N ρ a w R => by
  obtain ⟨p, hp, hr⟩ := R.hr.obj k _ hk
  have hfoot : p.foot = fun b => b = p.blk := frzV_foot ho hr
  have hMO : ∀ b, MO (frzS k m v S).h ρ b → ∃ i o p', i ≠ k ∧ S.h[i]? = some (some o) ∧ ρ[i]? = some p' ∧ p'.foot b := by
    rintro b ⟨i, o', p', g1, g2, g3⟩
    obtain ⟨e1, o2, e2, _⟩ := frz_get g1
    exact ⟨i, o2, p', e1, e2, g2, g3⟩
  have hN : ¬ MS N (frzS k m v S).h ρ p.blk := by
    rintro (hn | hb)
    · exact (R.hr.cel k _ p p.blk hk hp (by rw [hfoot])).2.1 hn
    · obtain ⟨i, o2, p', e1, e2, g2, g3⟩ := hMO _ hb
      exact R.hr.dis i k _ _ p' p p.blk e1 e2 hk g2 hp g3 (by rw [hfoot])
  have hM : ∀ b, MS N (frzS k m v S).h ρ b → MS N S.h ρ b := fun b hb => hb.imp id fun hb => by
    obtain ⟨i, o2, p', _, e2, g2, g3⟩ := hMO _ hb
    exact ⟨i, o2, p', e2, g2, g3⟩
  have conv : ∀ (d : DV) (u : Value), allP (frzC k m n d) → RepV (MS N S.h ρ) w d ρ u → RepV (MS N (frzS k m v S).h ρ) w (frzD k m v d) ρ u := by
    intro d u hcd hd
    cases d with
    | msl k' m' off n' =>
      simp only [frzC, frzD] at hcd ⊢
      split at hcd
      · rename_i e
        obtain ⟨rfl, rfl, rfl⟩ := e
        rw [if_pos ⟨rfl, rfl, rfl⟩]
        obtain ⟨p', cap, hp', e, g1, g2, _⟩ := hd
        have ep : p' = p := Option.some.inj (hp'.symm.trans hp)
        subst ep
        have en := hcd.1
        subst en
        exact frzV_rep ho hr hN hM e g1 g2
      · rename_i e
        rw [if_neg e]
        exact RepV.out _ (out_iff hM ρ) hd
    | _ => exact RepV.out _ (out_iff hM ρ) hd
  refine ⟨⟨⟨by simp [frzS, R.hr.len], fun i o' hi => ?_, fun i o' p' b g1 g2 g3 => ?_, fun i i' o1 o2 p1 p2 b hne g1 g2 g3 g4 g5 g6 => ?_, R.hr.nlt, R.hr.gi⟩, ⟨by simp [frzS, R.fr.1], fun i hi => ?_⟩⟩, ⟨Upd.refl _ w, fun b hb => .inl ?_⟩⟩
  · obtain ⟨e1, o2, e2, e3⟩ := frz_get hi
    obtain ⟨p', hp', hr'⟩ := R.hr.obj i o2 e2
    refine ⟨p', hp', ?_⟩
    cases o2 with
    | cells l =>
      cases e3
      show RowAt w p' (l.map (frzD k m v)).length _
      rw [List.length_map]
      refine RowAt.out hr' rfl fun j u hj hu => ?_
      have : (l.map (frzD k m v)).getD j .any = frzD k m v (l.getD j .any) := by simp [hj]
      rw [this]
      refine conv _ _ ?_ hu
      have hm1 : some (DO.cells l) ∈ S.h := List.mem_of_getElem? e2
      have := allP_memO hc2 hm1
      exact allP_mem (l := l) this (by simp [hj])
    | ints l => cases e3; exact RowAt.out hr' rfl fun j u _ hu => hu
    | bools l => cases e3; exact RowAt.out hr' rfl fun j u _ hu => hu
    | arr m n f => cases e3; exact RowAt.out hr' rfl fun j u _ hu => RepV.out _ (out_iff hM []) hu
    | iter encs =>
      cases e3
      obtain ⟨gf, lb, Rd, q1, q2, q3, q4⟩ := hr'
      exact ⟨gf, lb, Rd, q1, q2, fun b hb => ⟨fun hm => (q3 b hb).1 (hM b hm), (q3 b hb).2⟩, q4⟩
    | mo x => cases e3; exact hr'
  · obtain ⟨e1, o2, e2, e3⟩ := frz_get g1
    obtain ⟨q1, q2, q3⟩ := R.hr.cel i o2 p' b e2 g2 g3
    exact ⟨q1, q2, q3⟩
  · obtain ⟨e1, o3, e2, _⟩ := frz_get g1
    obtain ⟨e1', o4, e2', _⟩ := frz_get g2
    exact R.hr.dis i i' o3 o4 p1 p2 b hne e2 e2' g3 g4 g5 g6
  · have hi' : i < S.fr.length := by simpa [frzS] using hi
    have : (frzS k m v S).fr.getD i .any = frzD k m v (S.fr.getD i .any) := by simp [frzS, hi']
    rw [this]
    refine conv _ _ (allP_mem hc (by simp [hi'])) (R.fr.2 i hi')
  · obtain ⟨i, o2, p', _, e2, g2, g3⟩ := hMO _ hb
    exact ⟨i, o2, p', e2, g2, g3⟩
def frzX (k : Nat) (S : St) : Option (St × List Prop) := match S.h.getD k none with
  | some o => match frzV o with
    | some (m, n, v) => some (frzS k m v S, S.fr.flatMap (frzC k m n) ++ S.h.flatMap (frzCO k m n))
    | none => none
  | none => none
theorem SLp.frzE {S : St} (k : Nat) (S' : St) (vs : List Prop) (h : frzX k S = some (S', vs)) (hv : allP vs) : SLp S S' := by
  unfold frzX at h
  split at h
  · rename_i o ho
    split at h
    · rename_i m n v hf
      cases h
      obtain ⟨h1, h2⟩ := allP_append.1 hv
      refine SLp.frz k ?_ hf h1 h2
      rw [List.getD_eq_getElem?_getD] at ho
      cases hx : S.h[k]? with
      | none => rw [hx] at ho; cases ho
      | some x => rw [hx] at ho; exact congrArg some ho
    · cases h
  · cases h
theorem SLp.refl (S : St) : SLp S S := fun _ _ _ _ _ _ R => ⟨R, Step.refl _ _ _⟩
theorem SLp.trans {A B C : St} (h : SLp A B) (k : SLp B C) : SLp A C := fun P Γ N ρ a w R => by
  obtain ⟨R1, s1⟩ := h P Γ N ρ a w R
  obtain ⟨R2, s2⟩ := k P Γ N ρ a w R1
  exact ⟨R2, s1.trans s2⟩
theorem MO.put {h : DH} {ρ : List Place} {k : Nat} {o o' : DO} (hk : h[k]? = some (some o)) {b : Nat} : MO (h.set k (some o')) ρ b ↔ MO h ρ b := by
  have hlt := (List.getElem?_eq_some_iff.1 hk).1
  constructor
  · rintro ⟨i, x, p, h1, h2, h3⟩
    rw [List.getElem?_set] at h1
    by_cases e : k = i
    · subst e; exact ⟨k, o, p, hk, h2, h3⟩
    · rw [if_neg e] at h1; exact ⟨i, x, p, h1, h2, h3⟩
  · rintro ⟨i, x, p, h1, h2, h3⟩
    by_cases e : k = i
    · subst e; exact ⟨k, o', p, by simp [hlt], h2, h3⟩
    · exact ⟨i, x, p, by rw [List.getElem?_set, if_neg e]; exact h1, h2, h3⟩
/-- An object is read otherwise. -/
theorem SLp.obj {S : St} {k : Nat} {o o' : DO} (hk : S.h[k]? = some (some o)) (hO : ∀ (P : Program) (M : Nat → Prop) (w : World) (ρ : List Place) (p : Place), ObjRep P M w ρ p o → ObjRep P M w ρ p o') : SLp S ⟨S.fr, S.h.set k (some o')⟩ := fun P Γ N ρ a w R => by
  have hM : ∀ b, MS N (S.h.set k (some o')) ρ b ↔ MS N S.h ρ b := fun b => or_congr Iff.rfl (MO.put hk)
  have back : ∀ {i : Nat} {x : DO}, (S.h.set k (some o'))[i]? = some (some x) → ∃ y, S.h[i]? = some (some y) ∧ (i = k ∧ x = o' ∨ y = x) := by
    intro i x hi
    rw [List.getElem?_set] at hi
    by_cases e : k = i
    · subst e
      rw [if_pos rfl, if_pos (List.getElem?_eq_some_iff.1 hk).1] at hi
      cases hi
      exact ⟨o, hk, .inl ⟨rfl, rfl⟩⟩
    · rw [if_neg e] at hi; exact ⟨x, hi, .inr rfl⟩
  have O : Outl (MS N S.h ρ) w ρ (MS N (S.h.set k (some o')) ρ) w ρ := out_iff (fun b hb => (hM b).1 hb) ρ
  refine ⟨⟨⟨by simp [R.hr.len], fun i x hi => ?_, fun i x p b g1 g2 g3 => ?_, fun i i' o1 o2 p1 p2 b hne g1 g2 g3 g4 g5 g6 => ?_, R.hr.nlt, R.hr.gi⟩, R.fr.out O⟩, ⟨Upd.refl _ w, fun b hb => .inl ((MO.put hk).1 hb)⟩⟩
  · rw [List.getElem?_set] at hi
    by_cases e : k = i
    · subst e
      rw [if_pos rfl, if_pos (List.getElem?_eq_some_iff.1 hk).1] at hi
      cases hi
      obtain ⟨p, hp, hr⟩ := R.hr.obj k o hk
      exact ⟨p, hp, hO P _ w ρ p (hr.out O (S := fun _ => False) (Upd.refl _ _) (fun _ h => h.elim) fun _ _ _ h => h)⟩
    · rw [if_neg e] at hi
      obtain ⟨p, hp, hr⟩ := R.hr.obj i x hi
      exact ⟨p, hp, hr.out O (S := fun _ => False) (Upd.refl _ _) (fun _ h => h.elim) fun _ _ _ h => h⟩
  · obtain ⟨y, e, _⟩ := back g1
    exact R.hr.cel i y p b e g2 g3
  · obtain ⟨y1, e1, _⟩ := back g1
    obtain ⟨y2, e2, _⟩ := back g2
    exact R.hr.dis i i' y1 y2 p1 p2 b hne e1 e2 g3 g4 g5 g6
/-- What may be done to a state behind an operation: a row becomes a list; a row of records is read otherwise. -/
inductive Fz where
  | frz (k : Nat)
  | arr (k n : Nat) (f : Nat → Nat → DV)
def arrX (k n' : Nat) (f' : Nat → Nat → DV) (S : St) : Option (St × List Prop) := match S.h.getD k none with
  | some (.arr m n f) => some (⟨S.fr, S.h.set k (some (.arr m n' f'))⟩, [n = n' ∧ ∀ i j, i < n → j < m → DLe (f i j) (f' i j)])
  | _ => none
def fzX : Fz → St → Option (St × List Prop)
  | .frz k, S => frzX k S
  | .arr k n f, S => arrX k n f S
theorem getD_some {h : DH} {k : Nat} {o : DO} (ho : h.getD k none = some o) : h[k]? = some (some o) := by
  rw [List.getD_eq_getElem?_getD] at ho
  cases hx : h[k]? with
  | none => rw [hx] at ho; cases ho
  | some x => rw [hx] at ho; exact congrArg some ho
theorem SLp.fz {S : St} (z : Fz) (S' : St) (vs : List Prop) (h : fzX z S = some (S', vs)) (hv : allP vs) : SLp S S' := by
  cases z with
  | frz k => exact SLp.frzE k S' vs h hv
  | arr k n' f' =>
    simp only [fzX, arrX] at h
    split at h
    · rename_i m n f ho
      cases h
      obtain ⟨⟨rfl, hd⟩, _⟩ := hv
      refine SLp.obj (getD_some ho) fun P M w ρ p hr => ?_
      refine RowAt.out hr rfl fun j u hj hu => ?_
      have hm : 0 < m := by rcases Nat.eq_zero_or_pos m with e | e
                            · subst e; omega
                            · exact e
      exact hd _ _ ((Nat.div_lt_iff_lt_mul hm).2 hj) (Nat.mod_lt _ hm) M w [] u hu
    · cases h
/-- Rows to be read as lists behind an operation. -/
def frzs : List (Nat × Fz) → Option Nat → St → Option (St × List Prop × List (Nat × Fz))
  | [], _, S => some (S, [], [])
  | (t, z) :: rest, dst, S => if dst = some t then match fzX z S with
    | some (S', vs) => match frzs rest dst S' with
      | some (S'', vs', r) => some (S'', vs ++ vs', r)
      | none => none
    | none => none
    else some (S, [], (t, z) :: rest)
theorem frzs_sound : ∀ (l : List (Nat × Fz)) {dst : Option Nat} {S S' : St} {vs : List Prop} {r : List (Nat × Fz)}, frzs l dst S = some (S', vs, r) → allP vs → SLp S S'
  | [], dst, S, S', vs, r, h, _ => by cases h; exact SLp.refl S
  | (t, z) :: rest, dst, S, S', vs, r, h, hv => by
    simp only [frzs] at h
    split at h
    · split at h
      · rename_i S1 vs1 h1
        split at h
        · rename_i S2 vs2 r2 h2
          cases h
          obtain ⟨hv1, hv2⟩ := allP_append.1 hv
          exact (SLp.fz z S1 vs1 h1 hv1).trans (frzs_sound rest h2 hv2)
        · cases h
      · cases h
    · cases h; exact SLp.refl S
/-- Rows of records: a list, read by the cells of its elements. -/
abbrev rowsF {α : Type} [Inhabited α] (enc : α → Nat → DV) (L : List α) : Nat → Nat → DV := fun i j => enc (L.getD i default) j
theorem rows_app {α : Type} [Inhabited α] {enc : α → Nat → DV} {L L' : List α} {n m c : Nat} {g : Nat → Nat → DV} (hn : n = L.length) (hc : c = L'.length) (hg : ∀ i j, i < c → j < m → DLe (g i j) (rowsF enc L' i j)) : n + c = (L ++ L').length ∧ ∀ i j, i < n + c → j < m → DLe (if i < n then rowsF enc L i j else g (i - n) j) (rowsF enc (L ++ L') i j) := by
  subst hn
  subst hc
  refine ⟨by simp, fun i j hi hj => ?_⟩
  simp only [rowsF, List.getD_eq_getElem?_getD] at hg ⊢
  by_cases h : i < L.length
  · rw [if_pos h, List.getElem?_append_left h]; exact fun _ _ _ _ h => h
  · rw [if_neg h, List.getElem?_append_right (by omega)]
    exact hg _ j (by omega) hj
theorem dle_refl {d : DV} : DLe d d := fun _ _ _ _ h => h
theorem oneC_all {l : List DV} {m : Nat} (hl : l.all oneC = true) (hm : m = l.length) : ∀ j, j < m → oneC (l.getD j .any) = true := fun j hj => by
  subst hm
  rw [List.getD_eq_getElem?_getD, List.getElem?_eq_getElem hj]
  exact List.all_eq_true.1 hl _ (List.getElem_mem hj)
def allLe : List DV → List DV → Prop
  | [], [] => True
  | d :: ds, e :: es => DLe d e ∧ allLe ds es
  | _, _ => False
theorem allLe_ok : ∀ {l l' : List DV}, allLe l l' → l.length = l'.length ∧ ∀ j, j < l.length → DLe (l.getD j .any) (l'.getD j .any)
  | [], [], _ => ⟨rfl, fun j hj => absurd hj (Nat.not_lt_zero j)⟩
  | d :: ds, e :: es, ⟨h1, h2⟩ => by
    obtain ⟨q1, q2⟩ := allLe_ok h2
    refine ⟨by simp [q1], fun j hj => ?_⟩
    cases j with
    | zero => exact h1
    | succ j => exact q2 j (by simpa using hj)
  | [], _ :: _, h => h.elim
  | _ :: _, [], h => h.elim
theorem allLe_get {l l' : List DV} (h : allLe l l') (j : Nat) : DLe (l.getD j .any) (l'.getD j .any) := by
  obtain ⟨h1, h2⟩ := allLe_ok h
  by_cases hj : j < l.length
  · exact h2 j hj
  · rw [List.getD_eq_getElem?_getD, List.getD_eq_getElem?_getD, List.getElem?_eq_none (by omega), List.getElem?_eq_none (by omega)]
    exact dle_refl
def rowLe : List DV → List (List DV) → Prop
  | [], [] => True
  | v :: vs, c :: cs => (∃ l, dcells v = some l ∧ allLe l c) ∧ rowLe vs cs
  | _, _ => False
theorem rowLe_get : ∀ {vs : List DV} {cs : List (List DV)}, rowLe vs cs → vs.length = cs.length ∧ ∀ i, i < vs.length → ∃ l, dcells (vs.getD i .any) = some l ∧ allLe l (cs.getD i [])
  | [], [], _ => ⟨rfl, fun i hi => absurd hi (Nat.not_lt_zero i)⟩
  | v :: vs, c :: cs, ⟨h1, h2⟩ => by
    obtain ⟨q1, q2⟩ := rowLe_get h2
    refine ⟨by simp [q1], fun i hi => ?_⟩
    cases i with
    | zero => exact h1
    | succ i => exact q2 i (by simpa using hi)
  | [], _ :: _, h => h.elim
  | _ :: _, [], h => h.elim
theorem rows_build {α : Type} [Inhabited α] {c : α → List DV} {L : List α} {vals : List DV} {m n : Nat} (hn : n = vals.length) (h : rowLe vals (L.map c)) : n = L.length ∧ ∀ i j, i < n → j < m → DLe (match dcells (vals.getD i .any) with | some l => l.getD j .any | none => .any) (rowsF (fun x j => (c x).getD j .any) L i j) := by
  subst hn
  obtain ⟨h1, h2⟩ := rowLe_get h
  rw [List.length_map] at h1
  refine ⟨h1, fun i j hi _ => ?_⟩
  obtain ⟨l, e, hl⟩ := h2 i hi
  rw [e]
  have : (L.map c).getD i [] = c (L.getD i default) := by simp [List.getD_eq_getElem?_getD, h1 ▸ hi]
  rw [this] at hl
  exact allLe_get hl j
end
end Go.Proofs.YtekkngkphejfcaaDoor
