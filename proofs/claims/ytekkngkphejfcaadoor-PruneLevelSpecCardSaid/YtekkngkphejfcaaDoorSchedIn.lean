/- A drawn region inside a fence that lets every function in (also in a round of a range over a function): one walk serves every order; as in the text Sched, of which it takes the schedule. -/
import Derived.Test.YtekkngkphejfcaaDoorSched
import Derived.OrdersIn
import Derived.TacticsIn
namespace Go.Proofs.YtekkngkphejfcaaDoor
open Go.RowKit

def noDefer (ops : Array Oper) : Bool := ops.all fun o => match o.op with
  | .defer _ => false
  | _ => true
theorem noDefer_spec {ops : Array Oper} (h : noDefer ops = true) {j : Nat} {o : Oper} (hj : ops[j]? = some o) : ∀ c, o.op ≠ .defer c := by
  intro c hc
  have hm : o ∈ ops := Array.mem_of_getElem? hj
  have := Array.all_eq_true'.1 h o hm
  rw [hc] at this
  cases this

section
variable {F : Fence} {n : Nat} {P : Program} {ops : Array Oper} {Q : Exit → Act → World → Prop}

theorem yieldsIf_wpOpIn {S : World → Prop} {i : Nat} {o : Oper} {v : Value} {a : Act} (hF : ∀ f, F.fn f) (hd : ∀ c, o.op ≠ .defer c) (hi : ops[i]? = some o) (hy : YieldsIf P ops S o v a)
    {K : Act → World → Prop} {w : World} (hS : S w) (h : K (a.put o.dst v) w) : wpOpIn F n P ops Q i K a w := by
  unfold Go.wpOpIn
  simp only [hi]
  rcases hy with ⟨hw, hv⟩ | ⟨hw, rfl⟩
  · simp only [hw, if_true, Oper.wpIn, Oper.semAt_eq _ _ _ hd, hv w hS, Oper.uponIn]; exact ⟨fun f _ => hF f, h⟩
  · simp only [hw, Bool.false_eq_true, if_false]; exact ⟨fun f _ => hF f, h⟩

theorem wpOpIn_putIf {S : World → Prop} {j : Nat} {oi oj : Oper} {v : Value} (hF : ∀ f, F.fn f) (hdj : ∀ c, oj.op ≠ .defer c) (hj : ops[j]? = some oj) (hap : oi.apart ops oj = true)
    (hsi : ∀ cs b, oi.op ≠ .select cs b) (hsj : ∀ cs b, oj.op ≠ .select cs b)
    (hQ : ∀ c a w, Q (.panic c) (a.put oi.dst v) w → Q (.panic c) a w) {K : Act → World → Prop} {a : Act} {w : World}
    (hy : YieldsIf P ops S oi v a) (h : wpOpIn F n P ops Q j K (a.put oi.dst v) w) :
    wpOpIn F n P ops Q j (fun a' w' => YieldsIf P ops S oi v a' ∧ K (a'.put oi.dst v) w') a w := by
  obtain ⟨h1, h2, h3⟩ := Oper.apart_spec hap
  have keep : ∀ (a : Act), YieldsIf P ops S oi v a → ∀ u, YieldsIf P ops S oi v (a.put oj.dst u) := fun a hy u =>
    hy.of_same (execOp_put oi hsi a oj.dst u h3) (wanted_put oi a oj.dst u h3)
  have keepD : ∀ d, YieldsIf P ops S oi v { a with defers := d :: a.defers } := fun d => hy.of_same rfl rfl
  unfold wpOpIn at *
  simp only [hj] at *
  rw [wanted_put oj a oi.dst v h1] at h
  split
  · rename_i hw
    simp only [hw, if_true] at h
    unfold Oper.wpIn at *
    refine ⟨fun f _ => hF f, ?_⟩
    have h := h.2
    rw [Oper.semAt_eq _ _ _ hdj, execOp_put oj hsj a oi.dst v h1] at h
    rw [Oper.semAt_eq _ _ _ hdj]
    generalize (execOp a.eval oj).run P w = r at *
    cases r with
    | ok x w' =>
      cases x <;> simp only [Oper.uponIn] at h ⊢
      case value u => exact ⟨keep a hy u, by rw [← Act.put_comm a v u h2]; exact h⟩
      case skip => exact ⟨keep a hy _, by rw [← Act.put_comm a v undef h2]; exact h⟩
      case defer d =>
        refine ⟨keep _ (keepD d) _, ?_⟩
        rw [← Act.put_comm _ v undef h2, ← Act.put_defers]
        exact h
      case enter f args =>
        refine ⟨h.1, CallsIn.mono h.2 fun e w'' he => ?_⟩
        cases e with
        | returned u => exact ⟨keep a hy u, by rw [← Act.put_comm a v u h2]; exact he⟩
        | panicked c => exact hQ _ _ _ he
        | outgrown => exact he
      case row row args => exact ⟨h.1, RowsIn.mono h.2 fun u w'' he => ⟨keep a hy u, by rw [← Act.put_comm a v u h2]; exact he⟩⟩
      case round l f tmps assign body =>
        refine ⟨h.1, RoundIn.mono h.2 fun e w'' he => ?_⟩
        cases e with
        | returned u => exact ⟨keep a hy u, by rw [← Act.put_comm a v u h2]; exact he⟩
        | panicked c => exact hQ _ _ _ he
        | outgrown => exact he
    | halt x w' =>
      cases x <;> simp only [Oper.uponIn] at h ⊢
      case panic u => exact hQ _ _ _ h
  · rename_i hw
    simp only [hw] at h
    exact ⟨fun f _ => hF f, keep a hy _, by rw [← Act.put_comm a v undef h2]; exact h.2⟩

theorem wpOpIn_np {i : Nat} {K : Act → World → Prop} {a : Act} {w : World} (h : wpOpIn F n P ops (NP Q) i K a w) : wpOpIn F n P ops Q i K a w := by
  unfold wpOpIn at *
  split
  · rename_i ho; simp only [ho] at h; exact h
  · rename_i o ho
    simp only [ho] at h
    have hl : LetsOut (NP Q) → LetsOut Q := fun ⟨a, w, h⟩ => ⟨a, w, h⟩
    by_cases hw : Region.wanted o (yielded ops a.tmps) = true
    · rw [if_pos hw] at h ⊢
      unfold Oper.wpIn at *
      refine ⟨h.1, ?_⟩
      have h := h.2
      generalize (o.semAt F.round a.eval).run P w = r at *
      cases r with
      | ok x w' =>
        cases x <;> simp only [Oper.uponIn] at h ⊢ <;> first | exact h | skip
        · refine ⟨h.1, CallsIn.mono h.2 fun e w'' he => ?_⟩
          cases e with
          | returned v => exact he
          | panicked c => exact he.elim
          | outgrown => exact hl he
        · refine ⟨h.1, RoundIn.mono h.2 fun e w'' he => ?_⟩
          cases e with
          | returned v => exact he
          | panicked c => exact he.elim
          | outgrown => exact hl he
      | halt x w' => cases x <;> simp only [Oper.uponIn] at h ⊢; exact h.elim
    · rw [if_neg hw] at h ⊢; exact h

def wpAnyTIn (F : Fence) (n : Nat) (P : Program) (ops : Array Oper) (Q : Exit → Act → World → Prop) (isT : Nat → Bool) (g : Nat) (S : World → Prop) : Nat → Array Bool → Act → World → Prop
  | 0, listed, a, w => (∀ j, j < ops.size → isT j = false → listed.getD j true = true) ∧ wpAnyIn F n P .any ops Q g listed a w
  | m + 1, listed, a, w => Region.ready .any ops listed ≠ [] ∧ ∀ i ∈ Region.ready .any ops listed, wpOpIn F n P ops (NP Q) i (fun a' w' => S w' ∧ wpAnyTIn F n P ops Q isT g S m (listed.setIfInBounds i true) a' w') a w

theorem wpAnyTIn_mono {isT : Nat → Bool} {g : Nat} {S S' : World → Prop} (hS : ∀ w, S' w → S w) : ∀ (m : Nat) (listed : Array Bool) (a : Act) (w : World),
    wpAnyTIn F n P ops Q isT g S' m listed a w → wpAnyTIn F n P ops Q isT g S m listed a w
  | 0, _, _, _, h => h
  | m + 1, _, _, _, h => ⟨h.1, fun i hi => wpOpIn_mono (fun _ _ h' => ⟨hS _ h'.1, wpAnyTIn_mono hS m _ _ _ h'.2⟩) (h.2 i hi)⟩

theorem wpAnyIn_of_T {isT : Nat → Bool} {g : Nat} {S : World → Prop} : ∀ (m : Nat) (listed : Array Bool) (a : Act) (w : World), wpAnyTIn F n P ops Q isT g S m listed a w → wpAnyIn F n P .any ops Q (m + g) listed a w
  | 0, _, _, _, h => by rw [Nat.zero_add]; exact h.2
  | m + 1, _, _, _, h => by
    rw [show m + 1 + g = (m + g) + 1 by omega]
    exact ⟨fun h0 => absurd h0 h.1, fun i hi => wpOpIn_mono (fun a' w' h' => wpAnyIn_of_T m _ a' w' h'.2) (wpOpIn_np (h.2 i hi))⟩

theorem wpAnyTIn_first (hF : ∀ f, F.fn f) (hnd : noDefer ops = true) {isT : Nat → Bool} {g : Nat} {S : World → Prop} {i k : Nat} {oi : Oper} {v : Value} (hi : ops[i]? = some oi) (hsel : ∀ (j : Nat) (o : Oper) cs b, ops[j]? = some o → o.op ≠ .select cs b)
    (hT : ∀ j, j < ops.size → isT j = true → waits ops k j i = true) :
    ∀ (m : Nat) (listed : Array Bool) (a : Act) (w : World), Closed ops listed →
      (∀ j oj, ops[j]? = some oj → j ≠ i → listed.getD j true = false → (∀ e ∈ oj.after, Region.binds .any e = true → e.on ≠ i) → oi.apart ops oj = true) →
      i ∈ Region.ready .any ops listed → YieldsIf P ops S oi v a → S w →
      wpAnyTIn F n P ops Q isT g S m (listed.setIfInBounds i true) (a.put oi.dst v) w → wpAnyTIn F n P ops Q isT g S (m + 1) listed a w := by
  intro m
  induction m with
  | zero =>
    intro listed a w hcl _ hr hy hS H
    have hiun := (mem_ready.1 hr).1
    refine ⟨fun h => (by rw [h] at hr; cases hr), fun j hj => ?_⟩
    by_cases hji : j = i
    · subst hji; exact yieldsIf_wpOpIn hF (noDefer_spec hnd hi) hi hy hS ⟨hS, H⟩
    · exfalso
      obtain ⟨hjun, oj, hoj, hall⟩ := mem_ready.1 hj
      have hjs := (Array.getElem?_eq_some_iff.1 hoj).1
      cases ht : isT j with
      | true =>
        have := waits_listed hcl k j i oj hoj hall (hT j hjs ht)
        rw [getD_false_of_true hiun] at this
        cases this
      | false =>
        have := H.1 j hjs ht
        rw [getD_set_ne true (Ne.symm hji), hjun] at this
        cases this
  | succ m ih =>
    intro listed a w hcl hfree hr hy hS H
    have hiun := (mem_ready.1 hr).1
    refine ⟨fun h => (by rw [h] at hr; cases hr), fun j hj => ?_⟩
    by_cases hji : j = i
    · subst hji; exact yieldsIf_wpOpIn hF (noDefer_spec hnd hi) hi hy hS ⟨hS, H⟩
    · have h1 := H.2 j (ready_mono hj hji)
      obtain ⟨hjun, oj, hoj, hall⟩ := mem_ready.1 hj
      have hnot : ∀ e ∈ oj.after, Region.binds .any e = true → e.on ≠ i := fun e he hb heq => by
        have h1 := hall e he hb
        rw [heq, getD_false_of_true hiun] at h1
        cases h1
      have h2 := wpOpIn_putIf hF (noDefer_spec hnd hoj) hoj (hfree j oj hoj hji hjun hnot) (fun cs b => hsel i oi cs b hi) (fun cs b => hsel j oj cs b hoj) (fun c a w h => NP.put c a _ _ w h) hy h1
      have hfree' : ∀ k ok, ops[k]? = some ok → k ≠ i → (listed.setIfInBounds j true).getD k true = false →
          (∀ e ∈ ok.after, Region.binds .any e = true → e.on ≠ i) → oi.apart ops ok = true := fun k ok hk hki hun hno => by
        refine hfree k ok hk hki ?_ hno
        by_cases hjk : j = k
        · subst hjk; exact hjun
        · rw [getD_set_ne true hjk] at hun; exact hun
      refine wpOpIn_mono (fun a' w' h3 => ⟨h3.2.1, ih (listed.setIfInBounds j true) a' w' (hcl.set hj) hfree' (ready_mono hr (Ne.symm hji)) h3.1 h3.2.1 ?_⟩) h2
      rw [Array.setIfInBounds_comm _ _ hji]
      exact h3.2.2

def tailWIn (F : Fence) (n : Nat) (P : Program) (ops : Array Oper) (Q : Exit → Act → World → Prop) : List Nat → Act → World → Prop
  | [], a, w => Q .normal a w
  | t :: ts, a, w => wpOpIn F n P ops Q t (tailWIn F n P ops Q ts) a w

def heldIn (F : Fence) (n : Nat) (P : Program) (ops : Array Oper) (Q : Exit → Act → World → Prop) : List (List Nat × Nat) → List Nat → List Nat → Act → World → Prop
  | [], last, tail, a, w => wpQuiet P ops (fun w' => ∃ x : Later w, w' = x.W) (fun a' => tailWIn F n P ops Q tail a' w) (pickOps ops last) a
  | (seg, i) :: more, last, tail, a, w => wpQuiet P ops (fun w' => ∃ x : Later w, w' = x.W) (fun a' => wpOpIn F n P ops (NP Q) i (fun a'' w'' => Ext w w'' ∧ heldIn F n P ops Q more last tail a'' w'') a' w) (pickOps ops seg) a

theorem tailIn_sound : ∀ (tail : List Nat) (listed : Array Bool) (a : Act) (w : World), tailOk ops tail listed = true → tailWIn F n P ops Q tail a w → wpAnyIn F n P .any ops Q tail.length listed a w
  | [], listed, a, w, hk, h => ⟨by simpa [tailOk] using hk, h⟩
  | t :: ts, listed, a, w, hk, h => by
    simp only [tailOk, Bool.and_eq_true, beq_iff_eq] at hk
    refine ⟨fun h0 => (by rw [hk.1] at h0; cases h0), fun i hi => ?_⟩
    rw [hk.1, List.mem_singleton] at hi
    subst hi
    exact wpOpIn_mono (fun a' w' h' => tailIn_sound ts _ a' w' hk.2 h') h

theorem segIn_sound (hF : ∀ f, F.fn f) (hnd : noDefer ops = true) {w : World} {isT : Nat → Bool} {g : Nat} (hs : Region.noSelect ops = true) {next : Act → Prop} {m : Nat} :
    ∀ (l : List Nat) (listed : Array Bool) (a : Act), Closed ops listed → segOk ops isT l listed = true → wpQuiet P ops (ExtC w) next (pickOps ops l) a →
      (∀ a', Closed ops (segList l listed) → next a' → wpAnyTIn F n P ops Q isT g (Ext w) m (segList l listed) a' w) → wpAnyTIn F n P ops Q isT g (Ext w) (l.length + m) listed a w
  | [], listed, a, hcl, _, h, hn => by
    simp only [List.length_nil, Nat.zero_add]
    exact hn a hcl h
  | i :: l, listed, a, hcl, hk, h, hn => by
    simp only [segOk, Bool.and_eq_true] at hk
    obtain ⟨⟨⟨⟨hr, hf⟩, hp⟩, hT⟩, hk'⟩ := hk
    have hr' : i ∈ Region.ready .any ops listed := by simpa using hr
    have hT' : ∀ j, j < ops.size → isT j = true → waits ops ops.size j i = true := fun j hj ht => by
      have := List.all_eq_true.1 hT j (List.mem_range.2 hj)
      simpa [ht] using this
    have hfu : (i :: l).length + m = (l.length + m) + 1 := by simp; omega
    rw [hfu]
    cases hi : ops[i]? with
    | none => rw [hi] at hp; simp at hp
    | some o =>
      rw [hi] at hp
      simp only [pickOps, hi] at h
      unfold wpQuiet at h
      by_cases hw : Region.wanted o (yielded ops a.tmps) = true
      · rw [if_pos hw] at h
        obtain ⟨v, h1, h2⟩ := h
        exact wpAnyTIn_first hF hnd hi (Region.noSelect_spec hs) hT' _ listed a w hcl (Region.free_spec hi hf) hr' (yieldsIf_of_quiet hp hw h1) (Ext.refl _) (segIn_sound hF hnd hs l _ _ (hcl.set hr') hk' h2 hn)
      · rw [if_neg hw] at h
        exact wpAnyTIn_first hF hnd hi (Region.noSelect_spec hs) hT' _ listed a w hcl (Region.free_spec hi hf) hr' (.inr ⟨by simpa using hw, rfl⟩) (Ext.refl _) (segIn_sound hF hnd hs l _ _ (hcl.set hr') hk' h hn)

theorem heldIn_sound (hF : ∀ f, F.fn f) (hnd : noDefer ops = true) {isT : Nat → Bool} (hs : Region.noSelect ops = true) :
    ∀ (steps : List (List Nat × Nat)) (last tail : List Nat) (listed : Array Bool) (a : Act) (w : World), Closed ops listed → schedFrom ops isT steps last tail listed = true → heldIn F n P ops Q steps last tail a w →
      wpAnyTIn F n P ops Q isT tail.length (Ext w) (headSize steps last) listed a w
  | [], last, tail, listed, a, w, hcl, hk, h => by
    simp only [schedFrom, Bool.and_eq_true] at hk
    obtain ⟨⟨h1, h2⟩, h3⟩ := hk
    have := segIn_sound (m := 0) hF hnd hs last listed a hcl h1 h (fun a' _ hq => ⟨fun j hj ht => by
      have := List.all_eq_true.1 h2 j (List.mem_range.2 hj)
      simpa [ht] using this, tailIn_sound tail _ a' w h3 hq⟩)
    simpa [headSize] using this
  | (seg, i) :: more, last, tail, listed, a, w, hcl, hk, h => by
    simp only [schedFrom, Bool.and_eq_true, beq_iff_eq] at hk
    obtain ⟨⟨h1, h2⟩, h3⟩ := hk
    refine segIn_sound hF hnd hs seg listed a hcl h1 h fun a' hcl' hq => ?_
    rw [Nat.add_comm 1]
    refine ⟨fun h0 => (by rw [h2] at h0; cases h0), fun j hj => ?_⟩
    have hj' := hj
    rw [h2, List.mem_singleton] at hj
    subst hj
    refine wpOpIn_mono (fun a'' w'' h' => ⟨h'.1, ?_⟩) hq
    exact wpAnyTIn_mono (fun W hW => h'.1.trans hW) _ _ _ _ (heldIn_sound hF hnd hs more last tail _ a'' w'' (hcl'.set hj') h3 h'.2)

theorem wpIn_region_sched {id : Nat} {a : Act} {w : World} (hF : ∀ f, F.fn f) (steps : List (List Nat × Nat)) (last tail : List Nat) (hm : P.follows .mixedOrders = true) (hB : (schedB ops steps last tail && noDefer ops) = true)
    (h : heldIn F n P ops Q steps last tail a w.drew) : (Code.region id ops true).wpIn F n P Q a w := by
  simp only [schedB, Bool.and_eq_true, beq_iff_eq] at hB
  obtain ⟨⟨⟨h1, h2⟩, h3⟩, h4⟩ := hB
  have hcl : Closed ops (Array.replicate ops.size false) := fun j oj _ hl => by
    exfalso
    rcases Nat.lt_or_ge j ops.size with h | h
    · simp [h] at hl
    · simp [h] at hl
  have := wpAnyIn_of_T _ _ _ _ (heldIn_sound hF h4 h1 steps last tail _ a w.drew hcl h3 h)
  rw [h2] at this
  exact wpIn_region_any hm this

theorem tailIn_list : ∀ (tail : List Nat) (a : Act) (w : World), (∀ t ∈ tail, t < ops.size) → wpListIn F n P ops Q (pickOps ops tail) a w → tailWIn F n P ops Q tail a w
  | [], _, _, _, h => h
  | t :: ts, a, w, hl, h => by
    have ht : ops[t]? = some (ops[t]'(hl t (by simp))) := Array.getElem?_eq_getElem _
    simp only [pickOps, ht] at h
    unfold tailWIn wpOpIn
    simp only [ht]
    unfold wpListIn at h
    have hm : ∀ a w, wpListIn F n P ops Q (pickOps ops ts) a w → tailWIn F n P ops Q ts a w := fun a w h => tailIn_list ts a w (fun t ht => hl t (by simp [ht])) h
    by_cases hw : Region.wanted (ops[t]'(hl t (by simp))) (yielded ops a.tmps) = true
    · rw [if_pos hw] at h ⊢
      exact Oper.wpIn_mono hm h
    · rw [if_neg hw] at h ⊢
      exact ⟨h.1, hm _ _ h.2⟩
theorem wpOpIn_walk {i : Nat} {o : Oper} {K : Act → World → Prop} {a : Act} {w : World} (hi : ops[i]? = some o)
    (h : ∀ K' : Act → World → Prop, (∀ a w, K a w → K' a w) → wpListIn F n P ops (Exit.then K' Q) [o] a w) : wpOpIn F n P ops Q i K a w := by
  have h := h K (fun _ _ h => h)
  unfold wpOpIn
  simp only [hi]
  unfold wpListIn at h
  by_cases hw : Region.wanted o (yielded ops a.tmps) = true
  · rw [if_pos hw] at h ⊢
    unfold Oper.wpIn at *
    refine ⟨h.1, ?_⟩
    have h := h.2
    generalize (o.semAt F.round a.eval).run P w = r at *
    cases r with
    | ok n w' =>
      cases n <;> simp only [Oper.uponIn] at h ⊢ <;> exact h
    | halt x w' => cases x <;> simp only [Oper.uponIn] at h ⊢ <;> exact h
  · rw [if_neg hw] at h ⊢
    exact h
theorem heldIn_step {seg : List Nat} {i : Nat} {more : List (List Nat × Nat)} {last tail : List Nat} {a : Act} {w : World}
    (h : wpQuiet P ops (fun w' => ∃ x : Later w, w' = x.W) (fun a' => ∃ o, ops[i]? = some o ∧ ∀ K : Act → World → Prop, (∀ a'' w'', Ext w w'' → heldIn F n P ops Q more last tail a'' w'' → K a'' w'') → wpListIn F n P ops (Exit.then K (NP Q)) [o] a' w) (pickOps ops seg) a) :
    heldIn F n P ops Q ((seg, i) :: more) last tail a w := by
  refine wpQuiet_mono _ _ _ _ (fun a' h => ?_) h
  obtain ⟨o, ho, h⟩ := h
  exact wpOpIn_walk ho fun K hK => h K fun a'' w'' h1 h2 => hK a'' w'' ⟨h1, h2⟩
theorem heldIn_last {last tail : List Nat} {a : Act} {w : World} (ht : (tail.all fun t => decide (t < ops.size)) = true)
    (h : wpQuiet P ops (fun w' => ∃ x : Later w, w' = x.W) (fun a' => wpListIn F n P ops Q (pickOps ops tail) a' w) (pickOps ops last) a) :
    heldIn F n P ops Q [] last tail a w := by
  refine wpQuiet_mono _ _ _ _ (fun a' h => ?_) h
  exact tailIn_list tail a' w (fun t h => by simpa using List.all_eq_true.1 ht t h) h
end
end Go.Proofs.YtekkngkphejfcaaDoor
