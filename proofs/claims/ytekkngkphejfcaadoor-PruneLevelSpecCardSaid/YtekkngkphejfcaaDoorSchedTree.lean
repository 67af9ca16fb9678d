/- A drawn region whose operations may come up in several orders: reads are taken as early as they may come; between the others every order is followed. -/
import Derived.Test.YtekkngkphejfcaaDoorSchedIn
import Derived.Test.YtekkngkphejfcaaDoorRng
namespace Go.Proofs.YtekkngkphejfcaaDoor
open Go.RowKit

section
variable {F : Fence} {n : Nat} {P : Program} {ops : Array Oper} {Q : Exit → Act → World → Prop}

/-- Whatever is picked; R says what each operation does to the world. -/
def wpR (F : Fence) (n : Nat) (P : Program) (ops : Array Oper) (Q : Exit → Act → World → Prop) (R : Nat → World → World → Prop) : Nat → Array Bool → Act → World → Prop
  | 0, listed, a, w => (∀ j, j < ops.size → listed.getD j true = true) ∧ Q .normal a w
  | m + 1, listed, a, w => Region.ready .any ops listed ≠ [] ∧ ∀ i ∈ Region.ready .any ops listed, wpOpIn F n P ops (NP Q) i (fun a' w' => R i w w' ∧ wpR F n P ops Q R m (listed.setIfInBounds i true) a' w') a w

theorem wpR_mono {R R' : Nat → World → World → Prop} (hR : ∀ i w w', R' i w w' → R i w w') : ∀ (m : Nat) (listed : Array Bool) (a : Act) (w : World), wpR F n P ops Q R' m listed a w → wpR F n P ops Q R m listed a w
  | 0, _, _, _, h => h
  | m + 1, _, _, _, h => ⟨h.1, fun i hi => wpOpIn_mono (fun _ _ h' => ⟨hR _ _ _ h'.1, wpR_mono hR m _ _ _ h'.2⟩) (h.2 i hi)⟩
theorem ready_nil {listed : Array Bool} (h : ∀ j, j < ops.size → listed.getD j true = true) : Region.ready .any ops listed = [] := by
  cases hr : Region.ready .any ops listed with
  | nil => rfl
  | cons i l =>
    have hi : i ∈ Region.ready .any ops listed := by rw [hr]; simp
    obtain ⟨h1, oi, h2, _⟩ := mem_ready.1 hi
    rw [h i (Array.getElem?_eq_some_iff.1 h2).1] at h1
    cases h1
theorem wpAnyIn_of_R {R : Nat → World → World → Prop} : ∀ (m : Nat) (listed : Array Bool) (a : Act) (w : World), wpR F n P ops Q R m listed a w → wpAnyIn F n P .any ops Q m listed a w
  | 0, _, _, _, h => ⟨ready_nil h.1, h.2⟩
  | m + 1, _, _, _, h => ⟨fun h0 => absurd h0 h.1, fun i hi => wpOpIn_mono (fun a' w' h' => wpAnyIn_of_R m _ a' w' h'.2) (wpOpIn_np (h.2 i hi))⟩

theorem wpR_first (hF : ∀ f, F.fn f) (hnd : noDefer ops = true) {R : Nat → World → World → Prop} {T : World → Prop} {i : Nat} {oi : Oper} {v : Value} (hi : ops[i]? = some oi) (hsel : ∀ (j : Nat) (o : Oper) cs b, ops[j]? = some o → o.op ≠ .select cs b) (hRi : ∀ w, R i w w) :
    ∀ (m : Nat) (listed : Array Bool) (a : Act) (w : World), Closed ops listed →
      (∀ j oj, ops[j]? = some oj → j ≠ i → listed.getD j true = false → (∀ e ∈ oj.after, Region.binds .any e = true → e.on ≠ i) → oi.apart ops oj = true) →
      (∀ j, j < ops.size → j ≠ i → listed.getD j true = false → waits ops ops.size j i = false → ∀ w w', T w → R j w w' → T w') →
      i ∈ Region.ready .any ops listed → YieldsIf P ops T oi v a → T w →
      wpR F n P ops Q R m (listed.setIfInBounds i true) (a.put oi.dst v) w → wpR F n P ops Q R (m + 1) listed a w := by
  intro m
  induction m with
  | zero =>
    intro listed a w hcl _ _ hr hy hS H
    have hiun := (mem_ready.1 hr).1
    refine ⟨fun h => (by rw [h] at hr; cases hr), fun j hj => ?_⟩
    by_cases hji : j = i
    · subst hji; exact yieldsIf_wpOpIn hF (noDefer_spec hnd hi) hi hy hS ⟨hRi w, H⟩
    · exfalso
      obtain ⟨hjun, oj, hoj, hall⟩ := mem_ready.1 hj
      have hjs := (Array.getElem?_eq_some_iff.1 hoj).1
      have := H.1 j hjs
      rw [getD_set_ne true (Ne.symm hji), hjun] at this
      cases this
  | succ m ih =>
    intro listed a w hcl hfree hT hr hy hS H
    have hiun := (mem_ready.1 hr).1
    refine ⟨fun h => (by rw [h] at hr; cases hr), fun j hj => ?_⟩
    by_cases hji : j = i
    · subst hji; exact yieldsIf_wpOpIn hF (noDefer_spec hnd hi) hi hy hS ⟨hRi w, H⟩
    · have h1 := H.2 j (ready_mono hj hji)
      obtain ⟨hjun, oj, hoj, hall⟩ := mem_ready.1 hj
      have hjs := (Array.getElem?_eq_some_iff.1 hoj).1
      have hnw : waits ops ops.size j i = false := by
        cases hx : waits ops ops.size j i with
        | false => rfl
        | true =>
          have := waits_listed hcl _ j i oj hoj hall hx
          rw [getD_false_of_true hiun] at this
          cases this
      have hnot : ∀ e ∈ oj.after, Region.binds .any e = true → e.on ≠ i := fun e he hb heq => by
        have h1 := hall e he hb
        rw [heq, getD_false_of_true hiun] at h1
        cases h1
      have h2 := wpOpIn_putIf hF (noDefer_spec hnd hoj) hoj (hfree j oj hoj hji hjun hnot) (fun cs b => hsel i oi cs b hi) (fun cs b => hsel j oj cs b hoj) (fun c a w h => NP.put c a _ _ w h) hy h1
      have un : ∀ {k : Nat}, (listed.setIfInBounds j true).getD k true = false → listed.getD k true = false := fun {k} hun => by
        by_cases hjk : j = k
        · subst hjk; exact hjun
        · rw [getD_set_ne true hjk] at hun; exact hun
      refine wpOpIn_mono (fun a' w' h3 => ⟨h3.2.1, ih (listed.setIfInBounds j true) a' w' (hcl.set hj) (fun k ok hk hki hun hno => hfree k ok hk hki (un hun) hno) (fun k hks hki hun hkw => hT k hks hki (un hun) hkw) (ready_mono hr (Ne.symm hji)) h3.1 (hT j hjs hji hjun hnw w w' hS h3.2.1) ?_⟩) h2
      rw [Array.setIfInBounds_comm _ _ hji]
      exact h3.2.2

theorem wpIn_region_R {id : Nat} {a : Act} {w : World} {R : Nat → World → World → Prop} (hm : P.follows .mixedOrders = true) (h : wpR F n P ops Q R ops.size (Array.replicate ops.size false) a w.drew) : (Code.region id ops true).wpIn F n P Q a w :=
  wpIn_region_any hm (wpAnyIn_of_R _ _ _ _ h)
theorem closed_start : Closed ops (Array.replicate ops.size false) := fun j oj _ hl => by
  exfalso
  rcases Nat.lt_or_ge j ops.size with h | h
  · simp [h] at hl
  · simp [h] at hl
def plainAt (ops : Array Oper) (i : Nat) : Bool := match ops[i]? with
  | some o => plainOp o.op
  | none => false
/-- What each operation does to the world: reads nothing; those that may come before a read touch blocks of Z alone. -/
def RZ (ops : Array Oper) (early : Nat → Bool) (Z : Nat → Nat → Prop) (j : Nat) (w w' : World) : Prop := (plainAt ops j = true → w' = w) ∧ (early j = true → Upd (Z j) w w')
/-- A read may be taken now. -/
def rdOk (ops : Array Oper) (early : Nat → Bool) (i : Nat) (listed : Array Bool) : Bool :=
  (Region.ready .any ops listed).contains i && Region.free .any ops listed i && plainAt ops i &&
    ((List.range ops.size).all fun j => listed.getD j true || j == i || plainAt ops j || early j || waits ops ops.size j i)
theorem rd_sound (hF : ∀ f, F.fn f) (hnd : noDefer ops = true) (hs : Region.noSelect ops = true) {early : Nat → Bool} {Z : Nat → Nat → Prop} {Zi : Nat → Prop} {i m : Nat} {listed : Array Bool} {a : Act} {w : World} {oi : Oper} {v : Value} (hi : ops[i]? = some oi) (hcl : Closed ops listed) (hok : rdOk ops early i listed = true) (hZ : ∀ j, waits ops ops.size j i = false → ∀ b, Z j b → Zi b)
    (hy : YieldsIf P ops (Upd Zi w) oi v a) (h : wpR F n P ops Q (RZ ops early Z) m (listed.setIfInBounds i true) (a.put oi.dst v) w) : wpR F n P ops Q (RZ ops early Z) (m + 1) listed a w := by
  simp only [rdOk, Bool.and_eq_true, List.all_eq_true, List.mem_range, Bool.or_eq_true, beq_iff_eq] at hok
  obtain ⟨⟨⟨h1, h2⟩, h3⟩, h4⟩ := hok
  refine wpR_first hF hnd hi (Region.noSelect_spec hs) (fun w => ⟨fun _ => rfl, fun _ => Upd.refl _ _⟩) m listed a w hcl (Region.free_spec hi h2) (fun j hj hji hun hw w1 w2 hT hR => ?_) (by simpa using h1) hy (Upd.refl _ _) h
  rcases h4 j hj with (((h | h) | h) | h) | h
  · rw [hun] at h; cases h
  · exact absurd h hji
  · rw [hR.1 h]; exact hT
  · exact hT.trans ((hR.2 h).mono fun b _ hb => hZ j hw b hb)
  · rw [hw] at h; cases h
theorem closed_set {listed : Array Bool} {i : Nat} (hcl : Closed ops listed) (h : (Region.ready .any ops listed).contains i = true) : Closed ops (listed.setIfInBounds i true) := hcl.set (by simpa using h)
end
end Go.Proofs.YtekkngkphejfcaaDoor
