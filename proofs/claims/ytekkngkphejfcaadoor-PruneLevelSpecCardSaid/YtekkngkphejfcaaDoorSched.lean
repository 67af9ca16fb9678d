/- A region that draws its order, of reads beside calls and new blocks that keep what lay in memory: one walk, the reads as early as they may come, serves every order. -/
import Derived.Test.YtekkngkphejfcaaDoorDat
import Derived.OrdersHeld
import Derived.Deep.RegionHeld
import Derived.BigQuiet
namespace Go.Proofs.YtekkngkphejfcaaDoor
open Go.RowKit

/-- An operation that yields a value, or panics, and calls no Go function. -/
def plainOp : Op → Bool
  | .move _ | .assign _ | .pick .. | .load .. | .binOp .. | .unOp .. | .convert .. | .makeFunc .. | .slice .. | .fieldAddr .. | .field .. | .indexAddr .. | .index .. | .extract .. | .build .. | .lookup .. | .makeInterface .. | .nilCheck _ => true
  | .call c => match c.callee with
    | .builtin .len | .builtin .cap | .builtin .min | .builtin .max => true
    | _ => false
  | _ => false

theorem value_of_bind {P : Program} {w w' : World} {α : Type} {s : Sem α} {f : α → Value} {n : Next} (h : (s >>= fun x => (pure (.value (f x)) : Sem Next)).run P w = .ok n w') : ∃ v, n = .value v := by
  rw [Sem.run_bind] at h
  cases hs : s.run P w with
  | ok v w1 => rw [hs] at h; simp only [Result.andThen] at h; cases h; exact ⟨_, rfl⟩
  | halt x w1 => rw [hs] at h; simp only [Result.andThen] at h; cases h

theorem plain_value {P : Program} {ρ : Operand → Value} {o : Oper} {w w' : World} {n : Next} (hp : plainOp o.op = true) (h : (execOp ρ o).run P w = .ok n w') : ∃ v, n = .value v := by
  unfold execOp at h
  cases ho : o.op <;> rw [ho] at hp h <;> simp only [plainOp, Bool.false_eq_true] at hp
  all_goals first | exact value_of_bind (f := fun x => x) h | (cases h; exact ⟨_, rfl⟩) | skip
  · rename_i c x y
    exact value_of_bind (s := asBool (ρ c)) (f := fun b => if b then ρ x else ρ y) h
  · rename_i x
    have hb : ∀ {α : Type} (s : Sem α) (f : α → Sem Next) (w0 : World), (∀ a w1, (f a).run P w1 = .ok n w' → ∃ v, n = .value v) → (s >>= f).run P w0 = .ok n w' → ∃ v, n = .value v := by
      intro α s f w0 hf hr
      rw [Sem.run_bind] at hr
      cases hs : s.run P w0 with
      | ok v w1 => rw [hs] at hr; exact hf _ _ hr
      | halt x w1 => rw [hs] at hr; simp only [Result.andThen] at hr; cases hr
    have hpan : (runtimePanic .nilDeref : Sem Next).run P w = .ok n w' → ∃ v, n = .value v := by
      intro he
      unfold runtimePanic at he
      refine hb _ _ _ ?_ he
      intro a w1 h1
      cases h1
    simp only at h
    split at h
    · exact hpan h
    · exact hpan h
    · exact hpan h
    · split at h
      · exact hpan h
      · refine hb _ _ _ ?_ h
        intro p w1 h1
        refine hb _ _ _ ?_ h1
        intro q w2 h2
        split at h2
        · refine hb _ _ _ ?_ h2
          intro r w3 h3
          cases h3
          exact ⟨_, rfl⟩
        · cases h2
          exact ⟨_, rfl⟩
      · cases h; exact ⟨_, rfl⟩
    · cases h; exact ⟨_, rfl⟩
  · rename_i c
    replace h : ((resolve ρ c o.type) >>= fun d => invoke d.target d.args).run P w = .ok n w' := h
    rw [Sem.run_bind] at h
    unfold resolve at h
    cases hc : c.callee with
    | value f => rw [hc] at hp; simp at hp
    | invoke r m => rw [hc] at hp; simp at hp
    | builtin b =>
      rw [hc] at hp h
      have e : ∀ d : Deferred, (pure d : Sem Deferred).run P w = .ok d w := fun _ => rfl
      simp only [e, Result.andThen] at h
      unfold invoke at h
      cases b <;> simp at hp <;> exact value_of_bind (f := fun x => x) h

/-- A world in which what lay lies still. -/
structure Later (w : World) where
  W : World
  le : Ext w W
instance (w : World) : Nonempty (Later w) := ⟨⟨w, Ext.refl w⟩⟩
def ExtC (w : World) : World → Prop := fun w' => ∃ x : Later w, w' = x.W
theorem ExtC.iff {w w' : World} : ExtC w w' ↔ Ext w w' := ⟨fun ⟨x, e⟩ => e ▸ x.le, fun h => ⟨⟨w', h⟩, rfl⟩⟩

theorem xcell {w0 w1 : World} (hE : Ext w0 w1) {b o : Nat} {u : Value} (h : w0.cell? ⟨b, o, none⟩ = some u) : ∀ x : Later w1, x.W.cell? ⟨b, o, none⟩ = some u := fun x => (hE.trans x.le).cell h
theorem Ext.toDrew (w : World) : Ext w w.drew := Ext.drewR (Ext.refl w)
section
variable {P : Program} {ops : Array Oper} {Q : Exit → Act → World → Prop}

theorem yieldsIf_of_quiet {w : World} {o : Oper} {a : Act} {v : Value} (hp : plainOp o.op = true) (hw : Region.wanted o (yielded ops a.tmps) = true)
    (h : ∀ w', ExtC w w' → o.quietAt P a (ExtC w) w' v) : YieldsIf P ops (Ext w) o v a := by
  refine .inl ⟨hw, fun w' hE => ?_⟩
  have := h w' (ExtC.iff.2 hE)
  unfold Oper.quietAt at this
  cases hr : (execOp a.eval o).run P w' with
  | halt x w1 => rw [hr] at this; simp [Oper.quietUpon] at this
  | ok n w1 =>
    obtain ⟨u, rfl⟩ := plain_value hp hr
    rw [hr] at this
    obtain ⟨rfl, rfl⟩ := this
    rfl

/-- Q, but False at a panic. -/
def NP (Q : Exit → Act → World → Prop) : Exit → Act → World → Prop
  | .panic _, _, _ => False
  | e, a, w => Q e a w
theorem NP.put (c : List PanicEntry) (a : Act) (d : Option Tmp) (v : Value) (w : World) (h : NP Q (.panic c) (a.put d v) w) : NP Q (.panic c) a w := h.elim
theorem wpOp_np {i : Nat} {K : Act → World → Prop} {a : Act} {w : World} (h : wpOp P ops (NP Q) i K a w) : wpOp P ops Q i K a w := by
  unfold wpOp at *
  split
  · rename_i ho; simp only [ho] at h; exact h
  · rename_i o ho
    simp only [ho] at h
    have hl : LetsOut (NP Q) → LetsOut Q := fun ⟨a, w, h⟩ => ⟨a, w, h⟩
    by_cases hw : Region.wanted o (yielded ops a.tmps) = true
    · rw [if_pos hw] at h ⊢
      refine h.imp (fun h => ?_) (fun h => ⟨h.1, hl h.2⟩)
      unfold Oper.wp at *
      generalize (execOp a.eval o).run P w = r at *
      cases r with
      | ok n w' =>
        cases n <;> simp only [Oper.upon] at h ⊢ <;> first | exact h | skip
        refine Calls.mono h fun e w'' he => ?_
        cases e with
        | returned v => exact he
        | panicked c => exact he.elim
        | outgrown => exact hl he
      | halt x w' => cases x <;> simp only [Oper.upon] at h ⊢; exact h.elim
    · rw [if_neg hw] at h ⊢; exact h

/-- Whatever order is picked, while an operation of the head has not come up: S behind each; then the tail. -/
def wpAnyT (P : Program) (ops : Array Oper) (Q : Exit → Act → World → Prop) (isT : Nat → Bool) (g : Nat) (S : World → Prop) : Nat → Array Bool → Act → World → Prop
  | 0, listed, a, w => (∀ j, j < ops.size → isT j = false → listed.getD j true = true) ∧ wpAny P .any ops Q g listed a w
  | m + 1, listed, a, w => Region.ready .any ops listed ≠ [] ∧ ∀ i ∈ Region.ready .any ops listed, wpOp P ops (NP Q) i (fun a' w' => S w' ∧ wpAnyT P ops Q isT g S m (listed.setIfInBounds i true) a' w') a w

theorem wpAnyT_mono {isT : Nat → Bool} {g : Nat} {S S' : World → Prop} (hS : ∀ w, S' w → S w) : ∀ (m : Nat) (listed : Array Bool) (a : Act) (w : World),
    wpAnyT P ops Q isT g S' m listed a w → wpAnyT P ops Q isT g S m listed a w
  | 0, _, _, _, h => h
  | m + 1, _, _, _, h => ⟨h.1, fun i hi => wpOp_mono (fun _ _ h' => ⟨hS _ h'.1, wpAnyT_mono hS m _ _ _ h'.2⟩) (h.2 i hi)⟩

theorem wpAny_of_T {isT : Nat → Bool} {g : Nat} {S : World → Prop} : ∀ (m : Nat) (listed : Array Bool) (a : Act) (w : World), wpAnyT P ops Q isT g S m listed a w → wpAny P .any ops Q (m + g) listed a w
  | 0, _, _, _, h => by rw [Nat.zero_add]; exact h.2
  | m + 1, _, _, _, h => by
    rw [show m + 1 + g = (m + g) + 1 by omega]
    exact ⟨fun h0 => absurd h0 h.1, fun i hi => wpOp_mono (fun a' w' h' => wpAny_of_T m _ a' w' h'.2) (wpOp_np (h.2 i hi))⟩

/-- Whatever has come up has come up behind what it waits for. -/
def Closed (ops : Array Oper) (listed : Array Bool) : Prop := ∀ (j : Nat) (oj : Oper), ops[j]? = some oj → listed.getD j false = true → ∀ e ∈ oj.after, Region.binds .any e = true → listed.getD e.on false = true

theorem Closed.set {listed : Array Bool} {i : Nat} (h : Closed ops listed) (hi : i ∈ Region.ready .any ops listed) : Closed ops (listed.setIfInBounds i true) := by
  obtain ⟨_, oi, hoi, hall⟩ := mem_ready.1 hi
  intro j oj hj hl e he hb
  by_cases hij : i = j
  · subst hij
    have : oj = oi := Option.some.inj (hj.symm.trans hoi)
    subst this
    exact getD_set_true (hall e he hb)
  · rw [getD_set_ne false hij] at hl
    exact getD_set_true (h j oj hj hl e he hb)

def waits (ops : Array Oper) : Nat → Nat → Nat → Bool
  | 0, _, _ => false
  | n + 1, t, i => match ops[t]? with
    | none => false
    | some o => o.after.any fun e => Region.binds .any e && (e.on == i || waits ops n e.on i)

theorem waits_listed {listed : Array Bool} (hc : Closed ops listed) : ∀ (n t i : Nat) (o : Oper), ops[t]? = some o → (∀ e ∈ o.after, Region.binds .any e = true → listed.getD e.on false = true) → waits ops n t i = true → listed.getD i false = true
  | 0, _, _, _, _, _, h => by simp [waits] at h
  | n + 1, t, i, o, ho, hall, h => by
    simp only [waits, ho] at h
    obtain ⟨e, he, hb⟩ := Array.any_eq_true'.1 h
    simp only [Bool.and_eq_true, Bool.or_eq_true, beq_iff_eq] at hb
    obtain ⟨hb, h1 | h1⟩ := hb
    · rw [← h1]; exact hall e he hb
    · cases he2 : ops[e.on]? with
      | none => cases n <;> simp [waits, he2] at h1
      | some o2 => exact waits_listed hc n e.on i o2 he2 (hc e.on o2 he2 (hall e he hb)) h1

theorem getD_false_of_true {listed : Array Bool} {i : Nat} (h : listed.getD i true = false) : listed.getD i false = false := by
  rcases Nat.lt_or_ge i listed.size with h' | h'
  · simp [h'] at h ⊢; exact h
  · simp [Array.getElem?_eq_none h'] at h

theorem wpAnyT_first {isT : Nat → Bool} {g : Nat} {S : World → Prop} {i k : Nat} {oi : Oper} {v : Value} (hi : ops[i]? = some oi) (hsel : ∀ (j : Nat) (o : Oper) cs b, ops[j]? = some o → o.op ≠ .select cs b)
    (hT : ∀ j, j < ops.size → isT j = true → waits ops k j i = true) :
    ∀ (m : Nat) (listed : Array Bool) (a : Act) (w : World), Closed ops listed →
      (∀ j oj, ops[j]? = some oj → j ≠ i → listed.getD j true = false → (∀ e ∈ oj.after, Region.binds .any e = true → e.on ≠ i) → oi.apart ops oj = true) →
      i ∈ Region.ready .any ops listed → YieldsIf P ops S oi v a → S w →
      wpAnyT P ops Q isT g S m (listed.setIfInBounds i true) (a.put oi.dst v) w → wpAnyT P ops Q isT g S (m + 1) listed a w := by
  intro m
  induction m with
  | zero =>
    intro listed a w hcl _ hr hy hS H
    have hiun := (mem_ready.1 hr).1
    refine ⟨fun h => (by rw [h] at hr; cases hr), fun j hj => ?_⟩
    by_cases hji : j = i
    · subst hji; exact hy.wpOp hi hS ⟨hS, H⟩
    · exfalso
      obtain ⟨hjun, oj, hoj, hall⟩ := mem_ready.1 hj
      have hjs := (Array.getElem?_eq_some_iff.1 hoj).1
      cases ht : isT j with
      | true =>
        have := waits_listed hcl k j i oj hoj hall (hT j hjs ht)
        rw [getD_false_of_true hiun] at this
        cases this
      | false =>
        have := H.1 j hjs ht
        rw [getD_set_ne true (Ne.symm hji), hjun] at this
        cases this
  | succ m ih =>
    intro listed a w hcl hfree hr hy hS H
    have hiun := (mem_ready.1 hr).1
    refine ⟨fun h => (by rw [h] at hr; cases hr), fun j hj => ?_⟩
    by_cases hji : j = i
    · subst hji; exact hy.wpOp hi hS ⟨hS, H⟩
    · have h1 := H.2 j (ready_mono hj hji)
      obtain ⟨hjun, oj, hoj, hall⟩ := mem_ready.1 hj
      have hnot : ∀ e ∈ oj.after, Region.binds .any e = true → e.on ≠ i := fun e he hb heq => by
        have h1 := hall e he hb
        rw [heq, getD_false_of_true hiun] at h1
        cases h1
      have h2 := wpOp_putIf hoj (hfree j oj hoj hji hjun hnot) (fun cs b => hsel i oi cs b hi) (fun cs b => hsel j oj cs b hoj) (fun c a w h => NP.put c a _ _ w h) hy h1
      have hfree' : ∀ k ok, ops[k]? = some ok → k ≠ i → (listed.setIfInBounds j true).getD k true = false →
          (∀ e ∈ ok.after, Region.binds .any e = true → e.on ≠ i) → oi.apart ops ok = true := fun k ok hk hki hun hno => by
        refine hfree k ok hk hki ?_ hno
        by_cases hjk : j = k
        · subst hjk; exact hjun
        · rw [getD_set_ne true hjk] at hun; exact hun
      refine wpOp_mono (fun a' w' h3 => ⟨h3.2.1, ih (listed.setIfInBounds j true) a' w' (hcl.set hj) hfree' (ready_mono hr (Ne.symm hji)) h3.1 h3.2.1 ?_⟩) h2
      rw [Array.setIfInBounds_comm _ _ hji]
      exact h3.2.2

def pickOps (ops : Array Oper) : List Nat → List Oper
  | [] => []
  | i :: l => match ops[i]? with | some o => o :: pickOps ops l | none => pickOps ops l

/-- The tail, in its one order. -/
def tailW (P : Program) (ops : Array Oper) (Q : Exit → Act → World → Prop) : List Nat → Act → World → Prop
  | [], a, w => Q .normal a w
  | t :: ts, a, w => wpOp P ops Q t (tailW P ops Q ts) a w

/-- The walk: segments of reads, between them the operations that make memory; then the tail. -/
def held (P : Program) (ops : Array Oper) (Q : Exit → Act → World → Prop) : List (List Nat × Nat) → List Nat → List Nat → Act → World → Prop
  | [], last, tail, a, w => wpQuiet P ops (fun w' => ∃ x : Later w, w' = x.W) (fun a' => tailW P ops Q tail a' w) (pickOps ops last) a
  | (seg, i) :: more, last, tail, a, w => wpQuiet P ops (fun w' => ∃ x : Later w, w' = x.W) (fun a' => wpOp P ops (NP Q) i (fun a'' w'' => Ext w w'' ∧ held P ops Q more last tail a'' w'') a' w) (pickOps ops seg) a

def segOk (ops : Array Oper) (isT : Nat → Bool) : List Nat → Array Bool → Bool
  | [], _ => true
  | i :: l, listed => (Region.ready .any ops listed).contains i && Region.free .any ops listed i && (match ops[i]? with | some o => plainOp o.op | none => false) &&
      ((List.range ops.size).all fun j => !isT j || waits ops ops.size j i) && segOk ops isT l (listed.setIfInBounds i true)
def segList (l : List Nat) (listed : Array Bool) : Array Bool := l.foldl (fun s i => s.setIfInBounds i true) listed
def tailOk (ops : Array Oper) : List Nat → Array Bool → Bool
  | [], listed => (Region.ready .any ops listed).isEmpty
  | t :: ts, listed => Region.ready .any ops listed == [t] && tailOk ops ts (listed.setIfInBounds t true)
def schedFrom (ops : Array Oper) (isT : Nat → Bool) : List (List Nat × Nat) → List Nat → List Nat → Array Bool → Bool
  | [], last, tail, listed => segOk ops isT last listed && ((List.range ops.size).all fun j => isT j || (segList last listed).getD j true) && tailOk ops tail (segList last listed)
  | (seg, i) :: more, last, tail, listed => segOk ops isT seg listed && (Region.ready .any ops (segList seg listed) == [i]) && schedFrom ops isT more last tail ((segList seg listed).setIfInBounds i true)
def headSize : List (List Nat × Nat) → List Nat → Nat
  | [], last => last.length
  | (seg, _) :: more, last => seg.length + (1 + headSize more last)
def schedB (ops : Array Oper) (steps : List (List Nat × Nat)) (last tail : List Nat) : Bool :=
  Region.noSelect ops && headSize steps last + tail.length == ops.size && schedFrom ops (fun j => tail.contains j) steps last tail (Array.replicate ops.size false)

theorem tail_sound : ∀ (tail : List Nat) (listed : Array Bool) (a : Act) (w : World), tailOk ops tail listed = true → tailW P ops Q tail a w → wpAny P .any ops Q tail.length listed a w
  | [], listed, a, w, hk, h => ⟨by simpa [tailOk] using hk, h⟩
  | t :: ts, listed, a, w, hk, h => by
    simp only [tailOk, Bool.and_eq_true, beq_iff_eq] at hk
    refine ⟨fun h0 => (by rw [hk.1] at h0; cases h0), fun i hi => ?_⟩
    rw [hk.1, List.mem_singleton] at hi
    subst hi
    exact wpOp_mono (fun a' w' h' => tail_sound ts _ a' w' hk.2 h') h

theorem seg_sound {w : World} {isT : Nat → Bool} {g : Nat} (hs : Region.noSelect ops = true) {next : Act → Prop} {m : Nat} :
    ∀ (l : List Nat) (listed : Array Bool) (a : Act), Closed ops listed → segOk ops isT l listed = true → wpQuiet P ops (ExtC w) next (pickOps ops l) a →
      (∀ a', Closed ops (segList l listed) → next a' → wpAnyT P ops Q isT g (Ext w) m (segList l listed) a' w) → wpAnyT P ops Q isT g (Ext w) (l.length + m) listed a w
  | [], listed, a, hcl, _, h, hn => by
    simp only [List.length_nil, Nat.zero_add]
    exact hn a hcl h
  | i :: l, listed, a, hcl, hk, h, hn => by
    simp only [segOk, Bool.and_eq_true] at hk
    obtain ⟨⟨⟨⟨hr, hf⟩, hp⟩, hT⟩, hk'⟩ := hk
    have hr' : i ∈ Region.ready .any ops listed := by simpa using hr
    have hT' : ∀ j, j < ops.size → isT j = true → waits ops ops.size j i = true := fun j hj ht => by
      have := List.all_eq_true.1 hT j (List.mem_range.2 hj)
      simpa [ht] using this
    have hfu : (i :: l).length + m = (l.length + m) + 1 := by simp; omega
    rw [hfu]
    cases hi : ops[i]? with
    | none => rw [hi] at hp; simp at hp
    | some o =>
      rw [hi] at hp
      simp only [pickOps, hi] at h
      unfold wpQuiet at h
      by_cases hw : Region.wanted o (yielded ops a.tmps) = true
      · rw [if_pos hw] at h
        obtain ⟨v, h1, h2⟩ := h
        exact wpAnyT_first hi (Region.noSelect_spec hs) hT' _ listed a w hcl (Region.free_spec hi hf) hr' (yieldsIf_of_quiet hp hw h1) (Ext.refl _) (seg_sound hs l _ _ (hcl.set hr') hk' h2 hn)
      · rw [if_neg hw] at h
        exact wpAnyT_first hi (Region.noSelect_spec hs) hT' _ listed a w hcl (Region.free_spec hi hf) hr' (.inr ⟨by simpa using hw, rfl⟩) (Ext.refl _) (seg_sound hs l _ _ (hcl.set hr') hk' h hn)

theorem held_sound {isT : Nat → Bool} (hs : Region.noSelect ops = true) :
    ∀ (steps : List (List Nat × Nat)) (last tail : List Nat) (listed : Array Bool) (a : Act) (w : World), Closed ops listed → schedFrom ops isT steps last tail listed = true → held P ops Q steps last tail a w →
      wpAnyT P ops Q isT tail.length (Ext w) (headSize steps last) listed a w
  | [], last, tail, listed, a, w, hcl, hk, h => by
    simp only [schedFrom, Bool.and_eq_true] at hk
    obtain ⟨⟨h1, h2⟩, h3⟩ := hk
    have := seg_sound (m := 0) hs last listed a hcl h1 h (fun a' _ hq => ⟨fun j hj ht => by
      have := List.all_eq_true.1 h2 j (List.mem_range.2 hj)
      simpa [ht] using this, tail_sound tail _ a' w h3 hq⟩)
    simpa [headSize] using this
  | (seg, i) :: more, last, tail, listed, a, w, hcl, hk, h => by
    simp only [schedFrom, Bool.and_eq_true, beq_iff_eq] at hk
    obtain ⟨⟨h1, h2⟩, h3⟩ := hk
    refine seg_sound hs seg listed a hcl h1 h fun a' hcl' hq => ?_
    rw [Nat.add_comm 1]
    refine ⟨fun h0 => (by rw [h2] at h0; cases h0), fun j hj => ?_⟩
    have hj' := hj
    rw [h2, List.mem_singleton] at hj
    subst hj
    refine wpOp_mono (fun a'' w'' h' => ⟨h'.1, ?_⟩) hq
    exact wpAnyT_mono (fun W hW => h'.1.trans hW) _ _ _ _ (held_sound hs more last tail _ a'' w'' (hcl'.set hj') h3 h'.2)

theorem wp_region_sched {id : Nat} {a : Act} {w : World} (steps : List (List Nat × Nat)) (last tail : List Nat) (hm : P.follows .mixedOrders = true) (hB : schedB ops steps last tail = true)
    (h : held P ops Q steps last tail a w.drew) : (Code.region id ops true).wp P Q a w := by
  simp only [schedB, Bool.and_eq_true, beq_iff_eq] at hB
  obtain ⟨⟨h1, h2⟩, h3⟩ := hB
  have hcl : Closed ops (Array.replicate ops.size false) := fun j oj _ hl => by
    exfalso
    rcases Nat.lt_or_ge j ops.size with h | h
    · simp [h] at hl
    · simp [h] at hl
  have := wpAny_of_T _ _ _ _ (held_sound h1 steps last tail _ a w.drew hcl h3 h)
  rw [h2] at this
  exact wp_region_any hm this

theorem tail_list : ∀ (tail : List Nat) (a : Act) (w : World), (∀ t ∈ tail, t < ops.size) → wpList P ops Q (pickOps ops tail) a w → tailW P ops Q tail a w
  | [], _, _, _, h => h
  | t :: ts, a, w, hl, h => by
    have ht : ops[t]? = some (ops[t]'(hl t (by simp))) := Array.getElem?_eq_getElem _
    simp only [pickOps, ht] at h
    unfold tailW wpOp
    simp only [ht]
    unfold wpList at h
    have hm : ∀ a w, wpList P ops Q (pickOps ops ts) a w → tailW P ops Q ts a w := fun a w h => tail_list ts a w (fun t ht => hl t (by simp [ht])) h
    by_cases hw : Region.wanted (ops[t]'(hl t (by simp))) (yielded ops a.tmps) = true
    · rw [if_pos hw] at h ⊢
      exact h.imp (Oper.wp_mono hm) id
    · rw [if_neg hw] at h ⊢
      exact hm _ _ h
/-- One operation that changes memory, met by the walk. -/
theorem wpOp_walk {i : Nat} {o : Oper} {K : Act → World → Prop} {a : Act} {w : World} (hi : ops[i]? = some o)
    (h : ∀ K' : Act → World → Prop, (∀ a w, K a w → K' a w) → wpList P ops (Exit.then K' Q) [o] a w) : wpOp P ops Q i K a w := by
  have h := h K (fun _ _ h => h)
  unfold wpOp
  simp only [hi]
  unfold wpList at h
  by_cases hw : Region.wanted o (yielded ops a.tmps) = true
  · rw [if_pos hw] at h ⊢
    rcases h with h | ⟨h1, a0, w0, h2⟩
    · left
      refine Oper.wp_mono (K := wpList P ops (Exit.then K Q) []) (fun a w h => h) ?_
      unfold Oper.wp at *
      generalize (execOp a.eval o).run P w = r at *
      cases r with
      | ok n w' =>
        cases n <;> simp only [Oper.upon] at h ⊢ <;> exact h
      | halt x w' => cases x <;> simp only [Oper.upon] at h ⊢ <;> exact h
    · right; exact ⟨h1, a0, w0, h2⟩
  · rw [if_neg hw] at h ⊢
    exact h

theorem wpQuiet_mono {C : World → Prop} : ∀ (l : List Oper) (a : Act) (K K' : Act → Prop), (∀ a, K a → K' a) → wpQuiet P ops C K l a → wpQuiet P ops C K' l a
  | [], a, K, K', hk, h => hk a h
  | o :: l, a, K, K', hk, h => by
    unfold wpQuiet at *
    by_cases hw : Region.wanted o (yielded ops a.tmps) = true
    · rw [if_pos hw] at h ⊢; exact Oper.quiet_mono (fun a h => wpQuiet_mono l a K K' hk h) h
    · rw [if_neg hw] at h ⊢; exact wpQuiet_mono l _ K K' hk h
theorem held_step {seg : List Nat} {i : Nat} {more : List (List Nat × Nat)} {last tail : List Nat} {a : Act} {w : World}
    (h : wpQuiet P ops (fun w' => ∃ x : Later w, w' = x.W) (fun a' => ∃ o, ops[i]? = some o ∧ ∀ K : Act → World → Prop, (∀ a'' w'', Ext w w'' → held P ops Q more last tail a'' w'' → K a'' w'') → wpList P ops (Exit.then K (NP Q)) [o] a' w) (pickOps ops seg) a) :
    held P ops Q ((seg, i) :: more) last tail a w := by
  refine wpQuiet_mono _ _ _ _ (fun a' h => ?_) h
  obtain ⟨o, ho, h⟩ := h
  exact wpOp_walk ho fun K hK => h K fun a'' w'' h1 h2 => hK a'' w'' ⟨h1, h2⟩
theorem held_last {last tail : List Nat} {a : Act} {w : World} (ht : (tail.all fun t => decide (t < ops.size)) = true)
    (h : wpQuiet P ops (fun w' => ∃ x : Later w, w' = x.W) (fun a' => wpList P ops Q (pickOps ops tail) a' w) (pickOps ops last) a) :
    held P ops Q [] last tail a w := by
  refine wpQuiet_mono _ _ _ _ (fun a' h => ?_) h
  exact tail_list tail a' w (fun t h => by simpa using List.all_eq_true.1 ht t h) h
end
end Go.Proofs.YtekkngkphejfcaaDoor
