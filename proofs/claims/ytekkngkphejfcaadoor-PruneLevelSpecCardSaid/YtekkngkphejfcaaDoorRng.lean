/- A range over a function whose iterator holds cells of its own: the iterator's contract, and the statement's law, outermost and within a round. -/
import Derived.Test.YtekkngkphejfcaaDoorSchedIn
import Derived.RangeFuncOwn
import Derived.RangeFuncNested
import Derived.RangeFuncCalls
namespace Go.Proofs.YtekkngkphejfcaaDoor
open Go.RowKit

/-- What lay outside S lies as it lay. -/
structure Upd (S : Nat → Prop) (w w' : World) : Prop where
  os : w'.os = w.os
  tape : w'.tape = w.tape
  output : w'.output = w.output
  size : w.heap.size ≤ w'.heap.size
  block : ∀ k, k < w.heap.size → ¬ S k → w'.heap[k]? = w.heap[k]?

theorem Upd.refl (S : Nat → Prop) (w : World) : Upd S w w := ⟨rfl, rfl, rfl, Nat.le_refl _, fun _ _ _ => rfl⟩
theorem Upd.comp {S S' : Nat → Prop} {a b c : World} (h : Upd S a b) (k : Upd S' b c) (hs : ∀ i, i < a.heap.size → S' i → S i) : Upd S a c :=
  ⟨k.os.trans h.os, k.tape.trans h.tape, k.output.trans h.output, Nat.le_trans h.size k.size,
    fun i hi hn => (k.block i (Nat.lt_of_lt_of_le hi h.size) (fun hx => hn (hs i hi hx))).trans (h.block i hi hn)⟩
theorem Upd.trans {S : Nat → Prop} {a b c : World} (h : Upd S a b) (k : Upd S b c) : Upd S a c := h.comp k fun _ _ h => h
theorem Upd.mono {S S' : Nat → Prop} {a b : World} (h : Upd S a b) (hs : ∀ i, i < a.heap.size → S i → S' i) : Upd S' a b :=
  ⟨h.os, h.tape, h.output, h.size, fun i hi hn => h.block i hi fun hx => hn (hs i hi hx)⟩
theorem Upd.ofExt {S : Nat → Prop} {a b : World} (h : Ext a b) : Upd S a b := ⟨Below.os h, Below.tape h, Below.output h, Below.size h, fun i hi _ => Below.block h i hi⟩
theorem Upd.toExt {S : Nat → Prop} {a b : World} (h : Upd S a b) (hs : ∀ i, i < a.heap.size → ¬ S i) : Ext a b := ⟨h.os, h.tape, h.output, h.size, fun i hi => h.block i hi (hs i hi)⟩
theorem Upd.alloc {S : Nat → Prop} {a b : World} (h : Upd S a b) (o : Obj) : Upd S a (b.alloc o) := h.trans (Upd.ofExt (Ext.alloc b o))
theorem Upd.drew {S : Nat → Prop} {a b : World} (h : Upd S a b) : Upd S a b.drew := h.trans (Upd.ofExt (Ext.toDrew b))
theorem Upd.setCell {S : Nat → Prop} {a b : World} (h : Upd S a b) {p : Addr} (hp : p.block < a.heap.size → S p.block) (u : Value) : Upd S a (b.setCell p u) := by
  refine h.comp (S' := fun k => k = p.block) ⟨rfl, rfl, rfl, ?_, fun k _ hk => ?_⟩ (fun i hi e => by cases e; exact hp hi)
  · show b.heap.size ≤ (b.heap.modify _ _).size
    rw [Array.size_modify]; exact Nat.le_refl _
  · exact Below.heap_setCell b p u k hk
theorem Upd.putObj {S : Nat → Prop} {a b : World} (h : Upd S a b) {l : Nat} (hl : l < a.heap.size → S l) (o : Obj) : Upd S a (b.putObj l o) := by
  refine h.comp (S' := fun k => k = l) ⟨rfl, rfl, rfl, by simp, fun k _ hk => World.putObj_heap_other hk⟩ (fun i hi e => by cases e; exact hl hi)
theorem Upd.cell {S : Nat → Prop} {a b : World} (h : Upd S a b) {p : Addr} {u : Value} (hs : ¬ S p.block) (hc : a.cell? p = some u) : b.cell? p = some u := by
  rw [World.cell?_of_block (h.block p.block (World.block_lt_of_cell? a p hc) hs)]; exact hc

/-- A reading that minds neither new blocks nor what is done in G. -/
def Stable (I : (Nat → Prop) → World → Prop) : Prop :=
  ∀ (G G' : Nat → Prop) (A B : World), I G A → Upd G A B → (∀ k, G' k → G k ∨ A.heap.size ≤ k) → (∀ k, G' k → k < B.heap.size) → I G' B

/-- How a round is left by its body. -/
def roundQ (Keep : Nat → Prop) (I : World → Prop) (Ix : Code → World → Prop) (W : World) : Exit → Act → World → Prop
  | .normal, _, W' => Upd (fun k => ¬ Keep k) W W' ∧ I W'
  | .ret, _, W' => Upd (fun k => ¬ Keep k) W W' ∧ Ix .ret W'
  | .exit id, _, W' => Upd (fun k => ¬ Keep k) W W' ∧ Ix (.exit id) W'
  | .goto t, _, W' => Upd (fun k => ¬ Keep k) W W' ∧ Ix (.goto t) W'
  | .panic _, _, _ => False
  | .outgrown, _, _ => False

/-- The iterator (g, lb) yields what encs lists; G0 are its own blocks at w, Rd what it reads besides. -/
def Iter (P : Program) (g : Nat) (lb : Array Value) (encs : List (Array Value)) (G0 Rd : Nat → Prop) (w : World) : Prop :=
  ∀ (l : Nat) (J : Nat → (Nat → Prop) → World → Prop) (Jx : (Nat → Prop) → World → Prop) (G : Nat → Prop) (W : World),
    (∀ i, Stable (J i)) → Stable Jx → Upd (fun k => ¬ (G0 k ∨ Rd k)) w W → (∀ k, G0 k → G k) → (∀ k, G k → k < W.heap.size) →
    (∀ i args G W1, encs[i]? = some args → J i G W1 → YieldAt Fence.wide 0 P l args W1 fun e W' =>
      Upd (fun k => ¬ (G k ∨ Rd k)) W1 W' ∧ ((e = .returned (.bool true) ∧ J (i + 1) G W') ∨ (e = .returned (.bool false) ∧ Jx G W'))) →
    J 0 G W →
    CallsIn Fence.wide 0 P g (#[.func (.yield l) #[] #[]] ++ lb) W fun e W' => (∃ v, e = .returned v) ∧ ((∃ G', J encs.length G' W') ∨ (∃ G', Jx G' W'))

theorem roundIn_inRound {n : Nat} {P : Program} {l l0 : Nat} {f : FuncId} {tmps : Array Value} {assign body : Code} {w : World} {R : Ending → World → Prop}
    (h : RoundIn Fence.wide n P l f tmps assign body w R) : RoundIn (Fence.wide.inRound l0) n P l f tmps assign body w R := h

section
variable {P : Program}
/-- The part that both laws share: from the laid record on. -/
theorem range_core {ps : Array Tmp} {assign body : Code} {a : Act} {gf : Nat} {lb : Array Value} {encs : List (Array Value)} {G0 Rd : Nat → Prop} {w0 W1 : World} {l D dd : Nat} {fn : FuncId} {loose : Bool}
    (hseq : Iter P gf lb encs G0 Rd w0) (hb0 : Upd (fun k => ¬ (G0 k ∨ Rd k)) w0 W1) (hG0 : ∀ k, G0 k → k < l ∧ k ≠ D) (hRd : ∀ k, Rd k → k ≠ l) (hps : ∀ x ∈ encs, x.size = ps.size)
    (rec : LoopState → Option Code → Loop) (hrec : ∀ st pe, rec st pe = { state := st, pending := pe, fn, tmps := a.tmps, params := ps, assign, body, defers := dd })
    (hl1 : W1.heap[l]? = some (.loop (rec .ready none))) (hD1 : loose = false → W1.heap[D]? = some (.deferred (some []))) (hlD : D ≠ l)
    (I : Nat → (Nat → Prop) → World → Prop) (Ix : Code → (Nat → Prop) → World → Prop) (hI : ∀ i, Stable (I i)) (hIx : ∀ c, Stable (Ix c)) (own : Nat → Prop) (hown : ∀ k, own k → k = l ∨ (loose = false ∧ k = D)) (hol : own l) (hod : loose = false → own D)
    (h0 : I 0 (fun k => G0 k ∨ own k) W1)
    (hround : ∀ (G : Nat → Prop) (i : Nat) (x : Array Value) (W : World), encs[i]? = some x → I i G W → (∃ r, W.heap[l]? = some (.loop r)) → G l →
      assign.wpIn (Fence.wide.inRound l) 0 P (Exit.then (fun a₁ W₁ => ∃ K : (Nat → Prop) → World → Prop, Stable K ∧ Upd (fun k => ¬ (G k ∨ Rd k)) W W₁ ∧ K G W₁ ∧ ∀ W₂, K G W₂ → (∃ r, W₂.heap[l]? = some (.loop r)) →
        body.wpIn (Fence.wide.inRound l) 0 P (roundQ (fun k => G k ∨ Rd k) (I (i + 1) G) (fun c => Ix c G) W₂) a₁ W₂) (fun _ _ _ => False)) { tmps := (ps.zip x).foldl (fun t (p, v) => t.setIfInBounds p v) a.tmps, defers := [] } W) :
    CallsIn Fence.wide 0 P gf (#[.func (.yield l) #[] #[]] ++ lb) W1 fun e W2 => (∃ v, e = .returned v) ∧
      ((∃ G, I encs.length G W2 ∧ (∀ k, G k → k < W2.heap.size) ∧ G l ∧ (loose = false → G D) ∧ W2.heap[l]? = some (.loop (rec .ready none)) ∧ (loose = false → W2.heap[D]? = some (.deferred (some [])))) ∨
       (∃ c G, Ix c G W2 ∧ (∀ k, G k → k < W2.heap.size) ∧ G l ∧ (loose = false → G D) ∧ W2.heap[l]? = some (.loop (rec .done (some c))) ∧ (loose = false → W2.heap[D]? = some (.deferred (some []))))) := by
  have nG : ∀ (G G' : Nat → Prop) (A : World) (k : Nat) (o : Obj), ¬ G k → A.heap[k]? = some o → (∀ k, G' k → G k ∨ A.heap.size ≤ k) → ¬ G' k := fun G G' A k o hn hk hg hx => by
    have hlt := (Array.getElem?_eq_some_iff.1 hk).1
    rcases hg k hx with h | h
    · exact hn h
    · omega
  have kept : ∀ (G : Nat → Prop) (A B : World) (k : Nat) (o : Obj), ¬ G k → A.heap[k]? = some o → Upd G A B → B.heap[k]? = some o := fun G A B k o hn hk hu =>
    (hu.block k (Array.getElem?_eq_some_iff.1 hk).1 hn).trans hk
  have base : ∀ (Φ : (Nat → Prop) → World → Prop) (r : Loop), Stable Φ → Stable (fun G W => Φ (fun k => G k ∨ own k) W ∧ ¬ G l ∧ (loose = false → ¬ G D) ∧ W.heap[l]? = some (.loop r) ∧ (loose = false → W.heap[D]? = some (.deferred (some []))) ∧ ∀ k, G k → k < W.heap.size) := by
    intro Φ r hΦ G G' A B ⟨h1, h2, h3, h4, h5, h6⟩ hu hg hgb
    refine ⟨hΦ _ _ A B h1 (hu.mono fun i _ h => .inl h) (fun k hk => ?_) (fun k hk => hk.elim (hgb k) fun ho => Nat.lt_of_lt_of_le ((hown k ho).elim (fun e => e ▸ (Array.getElem?_eq_some_iff.1 h4).1) (fun e => e.2 ▸ (Array.getElem?_eq_some_iff.1 (h5 e.1)).1)) hu.size), nG G G' A l _ h2 h4 hg, fun hl => nG G G' A D _ (h3 hl) (h5 hl) hg, kept G A B l _ h2 h4 hu, fun hl => kept G A B D _ (h3 hl) (h5 hl) hu, hgb⟩
    rcases hk with hk | hk
    · exact (hg k hk).imp .inl id
    · exact .inl (.inr hk)
  refine (hseq l
    (fun i G W => I i (fun k => G k ∨ own k) W ∧ ¬ G l ∧ (loose = false → ¬ G D) ∧ W.heap[l]? = some (.loop (rec .ready none)) ∧ (loose = false → W.heap[D]? = some (.deferred (some []))) ∧ ∀ k, G k → k < W.heap.size)
    (fun G W => ∃ c, Ix c (fun k => G k ∨ own k) W ∧ ¬ G l ∧ (loose = false → ¬ G D) ∧ W.heap[l]? = some (.loop (rec .done (some c))) ∧ (loose = false → W.heap[D]? = some (.deferred (some []))) ∧ ∀ k, G k → k < W.heap.size)
    G0 W1 (fun i => base (I i) _ (hI i)) (fun G G' A B ⟨c, h⟩ hu hg hgb => ⟨c, base (Ix c) _ (hIx c) G G' A B h hu hg hgb⟩) hb0 (fun _ h => h) (fun k h => Nat.lt_trans (hG0 k h).1 (Array.getElem?_eq_some_iff.1 hl1).1) ?_
    ⟨h0, fun h => by have := (hG0 l h).1; omega, fun _ h => (hG0 D h).2 rfl, hl1, hD1, fun k h => Nat.lt_trans (hG0 k h).1 (Array.getElem?_eq_some_iff.1 hl1).1⟩).mono ?_
  · rintro i x G W hx ⟨hi, hnl, hnd, hl, hd, hgb⟩
    have hxm : x ∈ encs := List.mem_of_getElem? hx
    have hlt : l < W.heap.size := (Array.getElem?_eq_some_iff.1 hl).1
    have hob : ∀ k, (G k ∨ own k) → k < W.heap.size := fun k hk => hk.elim (hgb k) fun ho => (hown k ho).elim (fun e => e ▸ hlt) (fun e => e.2 ▸ (Array.getElem?_eq_some_iff.1 (hd e.1)).1)
    have hy := run_yield (P := P) (args := x) hl (by rw [hrec]; exact hps x hxm)
    rw [hrec] at hy
    refine ⟨fn, _, assign, body, hy, roundIn_of_wpIn trivial (wpIn_mono (hround _ i x W hx hi ⟨_, hl⟩ (.inr hol)) ?_)⟩
    rintro e a1 W1' hq
    cases e <;> first | exact hq.elim | skip
    obtain ⟨K, hK, hu1, hk1, hb⟩ := hq
    have hu1' : Upd (fun k => ¬ (G k ∨ Rd k)) W W1' := hu1.mono fun k _ h hx => h (hx.imp .inl id)
    have hl := (hu1.block l hlt (fun h => h (.inl (.inr hol)))).trans hl
    have hd : loose = false → W1'.heap[D]? = some (.deferred (some [])) := fun h => (hu1.block D (Array.getElem?_eq_some_iff.1 (hd h)).1 (fun hx => hx (.inl (.inr (hod h))))).trans (hd h)
    have hlt : l < W1'.heap.size := Nat.lt_of_lt_of_le hlt hu1.size
    have hgb : ∀ k, G k → k < W1'.heap.size := fun k h => Nat.lt_of_lt_of_le (hgb k h) hu1.size
    have hob : ∀ k, (G k ∨ own k) → k < W1'.heap.size := fun k h => Nat.lt_of_lt_of_le (hob k h) hu1.size
    refine ⟨_, run_beginRound hl (by rw [hrec]), ?_⟩
    have hl2 : (W1'.putObj l (.loop { rec .ready none with state := .busy })).heap[l]? = some (.loop { rec .ready none with state := .busy }) := World.putObj_heap_same hlt
    have hd2 : loose = false → (W1'.putObj l (.loop { rec .ready none with state := .busy })).heap[D]? = some (.deferred (some [])) := fun h => (World.putObj_heap_other hlD).trans (hd h)
    have hu2 : Upd (fun k => G k ∨ own k) W1' (W1'.putObj l (.loop { rec .ready none with state := .busy })) := (Upd.refl _ W1').putObj (fun _ => .inr hol) _
    refine wpIn_mono (hb _ (hK _ _ _ _ hk1 hu2 (fun k h => .inl h) (fun k h => Nat.lt_of_lt_of_le (hob k h) hu2.size)) ⟨_, hl2⟩) ?_
    have fin : ∀ (jump : Option Code) (W3 : World), Upd (fun k => ¬ ((G k ∨ own k) ∨ Rd k)) (W1'.putObj l (.loop { rec .ready none with state := .busy })) W3 →
        (Instr.endRound l jump).run P W3 = .ok (.bool jump.isNone) (W3.putObj l (.loop (rec (if jump.isNone then .ready else .done) jump))) ∧
        W3.heap[l]? = some (.loop { rec .ready none with state := .busy }) ∧
        (W3.putObj l (.loop (rec (if jump.isNone then .ready else .done) jump))).heap[l]? = some (.loop (rec (if jump.isNone then .ready else .done) jump)) ∧
        (loose = false → (W3.putObj l (.loop (rec (if jump.isNone then .ready else .done) jump))).heap[D]? = some (.deferred (some []))) ∧
        Upd (fun k => ¬ (G k ∨ Rd k)) W1' (W3.putObj l (.loop (rec (if jump.isNone then .ready else .done) jump))) ∧
        Upd (fun k => G k ∨ own k) W3 (W3.putObj l (.loop (rec (if jump.isNone then .ready else .done) jump))) := fun jump W3 hk3 => by
      have hl3 : W3.heap[l]? = some (.loop { rec .ready none with state := .busy }) := (hk3.block l (by simpa using hlt) (fun h => h (.inl (.inr hol)))).trans hl2
      have := run_endRound (P := P) jump hl3
      refine ⟨by rw [hrec] at this ⊢; exact this, hl3, World.putObj_heap_same (Array.getElem?_eq_some_iff.1 hl3).1, fun h => (World.putObj_heap_other hlD).trans ((hk3.block D ?_ (fun hx => hx (.inl (.inr (hod h))))).trans (hd2 h)), ?_, (Upd.refl _ W3).putObj (fun _ => .inr hol) _⟩
      · simpa using (Array.getElem?_eq_some_iff.1 (hd h)).1
      · refine ⟨hk3.os, hk3.tape, hk3.output, by simpa using hk3.size, fun k hk hn => ?_⟩
        have hGR : G k ∨ Rd k := Classical.not_not.1 hn
        by_cases hkl : k = l
        · subst hkl
          exact (hGR.elim hnl (fun h => hRd k h rfl)).elim
        · rw [World.putObj_heap_other hkl, hk3.block k (by simpa using hk) (fun hx => hx (hGR.imp .inl id)), World.putObj_heap_other hkl]
    rintro e a3 W3 hp
    cases e with
    | normal =>
      obtain ⟨hk3, hi3⟩ := hp
      obtain ⟨hr, hl3, hl4, hd4, hu4, hu5⟩ := fin none W3 hk3
      exact ⟨_, _, hr, hu1'.comp hu4 (fun _ _ h => h), .inl ⟨rfl, hI _ _ _ _ _ hi3 hu5 (fun k h => .inl h) (fun k h => Nat.lt_of_lt_of_le (hob k h) (Nat.le_trans hu2.size (Nat.le_trans hk3.size hu5.size))), hnl, hnd, hl4, hd4, fun k h => Nat.lt_of_lt_of_le (hgb k h) (Nat.le_trans hu2.size (Nat.le_trans hk3.size hu5.size))⟩⟩
    | ret =>
      obtain ⟨hk3, hi3⟩ := hp
      obtain ⟨hr, hl3, hl4, hd4, hu4, hu5⟩ := fin (some .ret) W3 hk3
      exact ⟨_, _, hr, hu1'.comp hu4 (fun _ _ h => h), .inr ⟨rfl, .ret, hIx _ _ _ _ _ hi3 hu5 (fun k h => .inl h) (fun k h => Nat.lt_of_lt_of_le (hob k h) (Nat.le_trans hu2.size (Nat.le_trans hk3.size hu5.size))), hnl, hnd, hl4, hd4, fun k h => Nat.lt_of_lt_of_le (hgb k h) (Nat.le_trans hu2.size (Nat.le_trans hk3.size hu5.size))⟩⟩
    | exit id =>
      obtain ⟨hk3, hi3⟩ := hp
      obtain ⟨hr, hl3, hl4, hd4, hu4, hu5⟩ := fin (some (.exit id)) W3 hk3
      exact ⟨_, _, hr, hu1'.comp hu4 (fun _ _ h => h), .inr ⟨rfl, .exit id, hIx _ _ _ _ _ hi3 hu5 (fun k h => .inl h) (fun k h => Nat.lt_of_lt_of_le (hob k h) (Nat.le_trans hu2.size (Nat.le_trans hk3.size hu5.size))), hnl, hnd, hl4, hd4, fun k h => Nat.lt_of_lt_of_le (hgb k h) (Nat.le_trans hu2.size (Nat.le_trans hk3.size hu5.size))⟩⟩
    | goto t =>
      obtain ⟨hk3, hi3⟩ := hp
      obtain ⟨hr, hl3, hl4, hd4, hu4, hu5⟩ := fin (some (.goto t)) W3 hk3
      exact ⟨_, _, hr, hu1'.comp hu4 (fun _ _ h => h), .inr ⟨rfl, .goto t, hIx _ _ _ _ _ hi3 hu5 (fun k h => .inl h) (fun k h => Nat.lt_of_lt_of_le (hob k h) (Nat.le_trans hu2.size (Nat.le_trans hk3.size hu5.size))), hnl, hnd, hl4, hd4, fun k h => Nat.lt_of_lt_of_le (hgb k h) (Nat.le_trans hu2.size (Nat.le_trans hk3.size hu5.size))⟩⟩
    | panic ch => exact hp.elim
    | outgrown => exact hp.elim
  · have ob : ∀ (G : Nat → Prop) (W2 : World) (r : Loop), W2.heap[l]? = some (.loop r) → (loose = false → W2.heap[D]? = some (.deferred (some []))) → (∀ k, G k → k < W2.heap.size) → ∀ k, (G k ∨ own k) → k < W2.heap.size := fun G W2 r h4 h5 h6 k hk =>
      hk.elim (h6 k) fun ho => (hown k ho).elim (fun e => e ▸ (Array.getElem?_eq_some_iff.1 h4).1) (fun e => e.2 ▸ (Array.getElem?_eq_some_iff.1 (h5 e.1)).1)
    rintro e W2 ⟨hv, (⟨G, h1, h2, h3, h4, h5, h6⟩ | ⟨G, c, h1, h2, h3, h4, h5, h6⟩)⟩
    · exact ⟨hv, .inl ⟨_, h1, ob _ _ _ h4 h5 h6, .inr hol, fun h => .inr (hod h), h4, h5⟩⟩
    · exact ⟨hv, .inr ⟨c, _, h1, ob _ _ _ h4 h5 h6, .inr hol, fun h => .inr (hod h), h4, h5⟩⟩

/-- The law, outermost. -/
theorem wpIn_rangeFunc_iter {g : Operand} {ps : Array Tmp} {assign body : Code} {Q : Exit → Act → World → Prop} {a : Act} {w : World}
    {gf : Nat} {lb : Array Value} (hg : a.eval g = .func (.func gf) #[] lb) (eg : ∀ args w, (callFunc gf args).run P w = .ok (.enter gf args) w)
    {encs : List (Array Value)} {G0 Rd : Nat → Prop} (hseq : Iter P gf lb encs G0 Rd w) (hG0 : ∀ k, G0 k → k < w.heap.size) (hRd : ∀ k, Rd k → k < w.heap.size) (hps : ∀ x ∈ encs, x.size = ps.size)
    (I : Nat → (Nat → Prop) → World → Prop) (Ix : Code → (Nat → Prop) → World → Prop) (hI : ∀ i, Stable (I i)) (hIx : ∀ c, Stable (Ix c)) (h0 : I 0 G0 w)
    (hround : ∀ (l : Nat) (G : Nat → Prop) (i : Nat) (x : Array Value) (W : World), encs[i]? = some x → I i G W → (∃ r, W.heap[l]? = some (.loop r)) → G l →
      assign.wpIn (Fence.wide.inRound l) 0 P (Exit.then (fun a₁ W₁ => ∃ K : (Nat → Prop) → World → Prop, Stable K ∧ Upd (fun k => ¬ (G k ∨ Rd k)) W W₁ ∧ K G W₁ ∧ ∀ W₂, K G W₂ → (∃ r, W₂.heap[l]? = some (.loop r)) →
        body.wpIn (Fence.wide.inRound l) 0 P (roundQ (fun k => G k ∨ Rd k) (I (i + 1) G) (fun c => Ix c G) W₂) a₁ W₂) (fun _ _ _ => False)) { tmps := (ps.zip x).foldl (fun t (p, v) => t.setIfInBounds p v) a.tmps, defers := [] } W)
    (hdone : ∀ (D : Nat) (G : Nat → Prop) (W : World), I encs.length G W → W.heap[D]? = some (.deferred (some [])) → G D → w.heap.size ≤ D →
      Q .normal { a with defers := { target := .collected D, args := #[] } :: a.defers } W)
    (hstop : ∀ (D : Nat) (c : Code) (G : Nat → Prop) (W : World), Ix c G W → W.heap[D]? = some (.deferred (some [])) → G D → w.heap.size ≤ D →
      c.wpIn Fence.wide 0 P Q { a with defers := { target := .collected D, args := #[] } :: a.defers } W) :
    (Code.rangeFunc g ps assign body).wpIn Fence.wide 0 P Q a w := by
  refine wpIn_rangeFunc ?_
  intro fn _
  have hs2 : (w.alloc (.deferred (some []))).heap.size = w.heap.size + 1 := World.size_alloc _ _
  obtain ⟨rec, hrec⟩ : ∃ rec : LoopState → Option Code → Loop, ∀ st pe, rec st pe = { state := st, pending := pe, fn, tmps := a.tmps, params := ps, assign, body, defers := w.heap.size } := ⟨_, fun _ _ => rfl⟩
  obtain ⟨W1, hW1⟩ : ∃ W1, (w.alloc (.deferred (some []))).alloc (.loop (rec .ready none)) = W1 := ⟨_, rfl⟩
  have hL1 : W1.heap[w.heap.size + 1]? = some (.loop (rec .ready none)) := by
    rw [← hW1]; have := World.alloc_heap_new (w.alloc (.deferred (some []))) (.loop (rec .ready none)); rwa [World.size_alloc] at this
  have hK1 : W1.heap[w.heap.size]? = some (.deferred (some [])) := by
    rw [← hW1]; exact (Below.heap_alloc _ _ _ (by simp)).trans (World.alloc_heap_new w _)
  have hu : ∀ S, Upd S w W1 := fun S => by rw [← hW1]; exact ((Upd.refl S w).alloc _).alloc _
  refine ⟨w.heap.size + 1, [{ target := .collected w.heap.size, args := #[] }], W1, { target := .fn (.func gf) lb, args := #[.func (.yield (w.heap.size + 1)) #[] #[]] }, W1, gf,
    #[.func (.yield (w.heap.size + 1)) #[] #[]] ++ lb, W1, ?_, ?_, fun _ _ => trivial, ?_, (fun h => by cases h), ?_⟩
  · rw [← hW1, hrec]; exact run_enterLoop_outer _ _ _ _ _
  · simp only [resolve, hg]
    simp [go_sem]
  · simp [invoke, go_sem, eg]
  · refine (range_core (loose := false) (D := w.heap.size) hseq (hu _) (fun k h => by have := hG0 k h; omega) (fun k h => by have := hRd k h; omega) hps rec hrec hL1 (fun _ => hK1) (by omega)
      I Ix hI hIx (fun k => k = w.heap.size + 1 ∨ k = w.heap.size) (fun k h => h.imp id fun h => ⟨rfl, h⟩) (.inl rfl) (fun _ => .inr rfl)
      (hI 0 _ _ _ _ h0 (hu _) (fun k h => h.imp id (by omega)) (fun k h => by have h2 := (Array.getElem?_eq_some_iff.1 hL1).1; rcases h with h | h | h <;> first | omega | (have := hG0 k h; omega))) (hround _)).mono ?_
    rintro e W2 ⟨⟨v, rfl⟩, (⟨G, hi, hgb, _, hgd, hl, hk⟩ | ⟨c, G, hi, hgb, hgl, hgd, hl, hk⟩)⟩
    · exact ⟨none, _, by have := run_endLoop (P := P) hl (by rw [hrec]; simp); rw [hrec] at this; exact this,
        hdone _ _ _ (hI _ _ _ _ _ hi ((Upd.refl _ W2).putObj (fun _ => by assumption) _) (fun k h => .inl h) (fun k h => by simpa using hgb k h)) ((World.putObj_heap_other (by omega)).trans (hk rfl)) (hgd rfl) (Nat.le_refl _)⟩
    · exact ⟨some c, _, by have := run_endLoop (P := P) hl (by rw [hrec]; simp); rw [hrec] at this; exact this,
        hstop _ c _ _ (hIx _ _ _ _ _ hi ((Upd.refl _ W2).putObj (fun _ => hgl) _) (fun k h => .inl h) (fun k h => by simpa using hgb k h)) ((World.putObj_heap_other (by omega)).trans (hk rfl)) (hgd rfl) (Nat.le_refl _)⟩

/-- The law, within a round of another. -/
theorem wpIn_rangeFunc_inner {l0 : Nat} {g : Operand} {ps : Array Tmp} {assign body : Code} {Q : Exit → Act → World → Prop} {a : Act} {w : World}
    {gf : Nat} {lb : Array Value} (hg : a.eval g = .func (.func gf) #[] lb) (eg : ∀ args w, (callFunc gf args).run P w = .ok (.enter gf args) w) (hl0 : ∃ r, w.heap[l0]? = some (.loop r))
    {encs : List (Array Value)} {G0 Rd : Nat → Prop} (hseq : Iter P gf lb encs G0 Rd w) (hG0 : ∀ k, G0 k → k < w.heap.size) (hRd : ∀ k, Rd k → k < w.heap.size) (hps : ∀ x ∈ encs, x.size = ps.size)
    (I : Nat → (Nat → Prop) → World → Prop) (Ix : Code → (Nat → Prop) → World → Prop) (hI : ∀ i, Stable (I i)) (hIx : ∀ c, Stable (Ix c)) (h0 : I 0 G0 w)
    (hround : ∀ (l : Nat) (G : Nat → Prop) (i : Nat) (x : Array Value) (W : World), encs[i]? = some x → I i G W → (∃ r, W.heap[l]? = some (.loop r)) → G l →
      assign.wpIn (Fence.wide.inRound l) 0 P (Exit.then (fun a₁ W₁ => ∃ K : (Nat → Prop) → World → Prop, Stable K ∧ Upd (fun k => ¬ (G k ∨ Rd k)) W W₁ ∧ K G W₁ ∧ ∀ W₂, K G W₂ → (∃ r, W₂.heap[l]? = some (.loop r)) →
        body.wpIn (Fence.wide.inRound l) 0 P (roundQ (fun k => G k ∨ Rd k) (I (i + 1) G) (fun c => Ix c G) W₂) a₁ W₂) (fun _ _ _ => False)) { tmps := (ps.zip x).foldl (fun t (p, v) => t.setIfInBounds p v) a.tmps, defers := [] } W)
    (hdone : ∀ (G : Nat → Prop) (W : World), I encs.length G W → Q .normal a W)
    (hstop : ∀ (c : Code) (G : Nat → Prop) (W : World), Ix c G W → c.wpIn (Fence.wide.inRound l0) 0 P Q a W) :
    (Code.rangeFunc g ps assign body).wpIn (Fence.wide.inRound l0) 0 P Q a w := by
  refine wpIn_rangeFunc ?_
  intro fn _
  obtain ⟨r0, hr0⟩ := hl0
  obtain ⟨rec, hrec⟩ : ∃ rec : LoopState → Option Code → Loop, ∀ st pe, rec st pe = { state := st, pending := pe, fn, tmps := a.tmps, params := ps, assign, body, defers := r0.defers } := ⟨_, fun _ _ => rfl⟩
  obtain ⟨W1, hW1⟩ : ∃ W1, w.alloc (.loop (rec .ready none)) = W1 := ⟨_, rfl⟩
  have hL1 : W1.heap[w.heap.size]? = some (.loop (rec .ready none)) := by
    rw [← hW1]; exact World.alloc_heap_new w _
  have hu : ∀ S, Upd S w W1 := fun S => by rw [← hW1]; exact (Upd.refl S w).alloc _
  refine ⟨w.heap.size, [], W1, { target := .fn (.func gf) lb, args := #[.func (.yield w.heap.size) #[] #[]] }, W1, gf,
    #[.func (.yield w.heap.size) #[] #[]] ++ lb, W1, ?_, ?_, fun _ _ => trivial, ?_, (fun h => by cases h), ?_⟩
  · rw [← hW1, hrec]; exact run_enterLoop_inner hr0 _ _ _ _ _
  · simp only [resolve, hg]
    simp [go_sem]
  · simp [invoke, go_sem, eg]
  · refine CallsIn.inRound _ ((range_core (loose := true) (D := w.heap.size + 1) (G0 := G0) hseq (hu _) (fun k h => by have := hG0 k h; omega) (fun k h => by have := hRd k h; omega) hps rec hrec hL1 (fun h => by cases h) (by omega)
      I Ix hI hIx (fun k => k = w.heap.size) (fun k h => .inl h) rfl (fun h => by cases h)
      (hI 0 _ _ _ _ h0 (hu _) (fun k h => h.imp id (by omega)) (fun k h => by have h2 := (Array.getElem?_eq_some_iff.1 hL1).1; rcases h with h | h <;> first | omega | (have := hG0 k h; omega))) (hround _)).mono ?_)
    rintro e W2 ⟨⟨v, rfl⟩, (⟨G, hi, hgb, hgl, _, hl, _⟩ | ⟨c, G, hi, hgb, hgl, _, hl, _⟩)⟩
    · exact ⟨none, _, by have := run_endLoop (P := P) hl (by rw [hrec]; simp); rw [hrec] at this; exact this,
        hdone _ _ (hI _ _ _ _ _ hi ((Upd.refl _ W2).putObj (fun _ => hgl) _) (fun k h => .inl h) (fun k h => by simpa using hgb k h))⟩
    · exact ⟨some c, _, by have := run_endLoop (P := P) hl (by rw [hrec]; simp); rw [hrec] at this; exact this,
        hstop c _ _ (hIx _ _ _ _ _ hi ((Upd.refl _ W2).putObj (fun _ => hgl) _) (fun k h => .inl h) (fun k h => by simpa using hgb k h))⟩
end

/-- The marks that ranges over functions have left among the deferred calls: their blocks, made behind B, hold no call. -/
def Marks (B : Nat) : List Deferred → World → Prop
  | [], _ => True
  | d :: ds, w => ∃ D, d = { target := .collected D, args := #[] } ∧ B ≤ D ∧ w.heap[D]? = some (.deferred (some [])) ∧ (∀ d' ∈ ds, d'.target ≠ .collected D) ∧ Marks B ds w

theorem Marks.upd {B : Nat} {S : Nat → Prop} {w w' : World} (hu : Upd S w w') : ∀ {ds : List Deferred}, Marks B ds w → (∀ k, B ≤ k → S k → w.heap[k]? ≠ some (.deferred (some []))) → Marks B ds w'
  | [], _, _ => trivial
  | _ :: _, ⟨D, h1, h2, h3, h4, h5⟩, hs => ⟨D, h1, h2, (hu.block D (Array.getElem?_eq_some_iff.1 h3).1 (fun hx => hs D h2 hx h3)).trans h3, h4, Marks.upd hu h5 hs⟩
theorem Marks.lt {B : Nat} {w : World} : ∀ {ds : List Deferred} (_ : Marks B ds w) {d : Deferred} {D : Nat}, d ∈ ds → d.target = .collected D → D < w.heap.size
  | _ :: _, ⟨D, h1, h2, h3, h4, h5⟩, d, D', hm, ht => by
    rcases List.mem_cons.1 hm with rfl | hm
    · subst h1; cases ht; exact (Array.getElem?_eq_some_iff.1 h3).1
    · exact Marks.lt h5 hm ht
theorem Marks.cons {B D : Nat} {w w' : World} {ds : List Deferred} (h : Marks B ds w) (hB : B ≤ w.heap.size) (hD : w.heap.size ≤ D) (hd : w'.heap[D]? = some (.deferred (some []))) (h' : Marks B ds w') :
    Marks B ({ target := .collected D, args := #[] } :: ds) w' :=
  ⟨D, rfl, Nat.le_trans hB hD, hd, fun d' hm ht => by have := h.lt hm ht; omega, h'⟩
theorem cells_not_deferred {w : World} {p : Addr} {u : Value} (h : w.cell? p = some u) : w.heap[p.block]? ≠ some (.deferred (some [])) := by
  intro e
  unfold World.cell? at h
  rw [e] at h
  cases h

/-- Behind the marks: their blocks are shut. -/
def Shut (B : Nat) (w W : World) : Prop := Upd (fun k => B ≤ k ∧ w.heap[k]? = some (.deferred (some []))) w W
theorem Shut.cell {B : Nat} {w W : World} (h : Shut B w W) {p : Addr} {u : Value} (hc : w.cell? p = some u) : W.cell? p = some u :=
  Upd.cell h (fun hx => cells_not_deferred hc hx.2) hc

/-- What is asked at the end of a body that holds ranges over functions. -/
def postM (B : Nat) (P : Program) (fn : Func) (R : Ending → World → Prop) : Exit → Act → World → Prop
  | .normal, a, w | .ret, a, w => Marks B a.defers w ∧ ∀ W, Shut B w W → ∃ v, (results fn a.tmps).run P W = .ok v W ∧ R (.returned v) W
  | _, _, _ => False

theorem leaves_marks {B : Nat} {P : Program} {fn : Func} {tmps : Array Value} {R : Ending → World → Prop} : ∀ (ds : List Deferred) (w : World), Marks B ds w →
    (∀ W, Shut B w W → ∃ v, (results fn tmps).run P W = .ok v W ∧ R (.returned v) W) → LeavesInM Fence.wide 0 P fn tmps R ds .returning w
  | [], w, _, h => h w (Upd.refl _ w)
  | _ :: ds, w, ⟨D, h1, h2, h3, h4, h5⟩, h => by
    refine ⟨by simp, .inl ⟨D, _, by rw [h1], run_takeDeferred h3, ?_⟩⟩
    have hu : Upd (fun k => k = D) w (w.putObj D (.deferred none)) := (Upd.refl (fun k => k = D) w).putObj (fun _ => rfl) _
    have hne : ∀ {ds : List Deferred}, (∀ d' ∈ ds, d'.target ≠ .collected D) → Marks B ds w → Marks B ds (w.putObj D (.deferred none)) := by
      intro ds
      induction ds with
      | nil => intro _ _; trivial
      | cons d ds ih =>
        intro hd ⟨D', g1, g2, g3, g4, g5⟩
        refine ⟨D', g1, g2, ?_, g4, ih (fun d' hm => hd d' (by simp [hm])) g5⟩
        rw [World.putObj_heap_other (fun e => hd d (by simp) (by rw [g1, e]))]; exact g3
    refine leaves_marks ds _ (hne h4 h5) fun W hW => h W ?_
    refine hu.mono (S' := fun k => B ≤ k ∧ w.heap[k]? = some (.deferred (some []))) (fun i _ e => by cases e; exact ⟨h2, h3⟩) |>.comp hW fun i hi hx => ⟨hx.1, ?_⟩
    by_cases e : i = D
    · rw [e]; exact h3
    · rw [← World.putObj_heap_other (o := .deferred none) e]; exact hx.2

theorem calls_marks (B : Nat) {P : Program} {f : FuncId} {fn : Func} {c : Code} {args : Array Value} {w : World} {R : Ending → World → Prop}
    (hf : P.funcs[f]? = some fn) (hb : fn.body = some c)
    (h : c.wp P (postM B P fn R) { tmps := args ++ Array.replicate (fn.ntmps - args.size) undef, defers := [] } w) : Calls P f args w R := by
  refine (callsIn_wide (n := 0)).1 (callsIn_of_wp_marks hf hb trivial ?_)
  refine wpIn_mono (wpIn_wide.2 h) fun e a' w' hq => ?_
  cases e <;> first | exact leaves_marks _ _ hq.1 hq.2 | exact hq.elim

/-- The law, outermost, for the plain walk. -/
theorem wp_rangeFunc_iter {P : Program} {g : Operand} {ps : Array Tmp} {assign body : Code} {Q : Exit → Act → World → Prop} {a : Act} {w : World}
    {gf : Nat} {lb : Array Value} (hg : a.eval g = .func (.func gf) #[] lb) (eg : ∀ args w, (callFunc gf args).run P w = .ok (.enter gf args) w)
    {encs : List (Array Value)} {G0 Rd : Nat → Prop} (hseq : Iter P gf lb encs G0 Rd w) (hG0 : ∀ k, G0 k → k < w.heap.size) (hRd : ∀ k, Rd k → k < w.heap.size) (hps : ∀ x ∈ encs, x.size = ps.size)
    (I : Nat → (Nat → Prop) → World → Prop) (Ix : Code → (Nat → Prop) → World → Prop) (hI : ∀ i, Stable (I i)) (hIx : ∀ c, Stable (Ix c)) (h0 : I 0 G0 w)
    (hround : ∀ (l : Nat) (G : Nat → Prop) (i : Nat) (x : Array Value) (W : World), encs[i]? = some x → I i G W → (∃ r, W.heap[l]? = some (.loop r)) → G l →
      assign.wpIn (Fence.wide.inRound l) 0 P (Exit.then (fun a₁ W₁ => ∃ K : (Nat → Prop) → World → Prop, Stable K ∧ Upd (fun k => ¬ (G k ∨ Rd k)) W W₁ ∧ K G W₁ ∧ ∀ W₂, K G W₂ → (∃ r, W₂.heap[l]? = some (.loop r)) →
        body.wpIn (Fence.wide.inRound l) 0 P (roundQ (fun k => G k ∨ Rd k) (I (i + 1) G) (fun c => Ix c G) W₂) a₁ W₂) (fun _ _ _ => False)) { tmps := (ps.zip x).foldl (fun t (p, v) => t.setIfInBounds p v) a.tmps, defers := [] } W)
    (hdone : ∀ (D : Nat) (G : Nat → Prop) (W : World), I encs.length G W → W.heap[D]? = some (.deferred (some [])) → G D → w.heap.size ≤ D →
      Q .normal { a with defers := { target := .collected D, args := #[] } :: a.defers } W)
    (hstop : ∀ (D : Nat) (c : Code) (G : Nat → Prop) (W : World), Ix c G W → W.heap[D]? = some (.deferred (some [])) → G D → w.heap.size ≤ D →
      c.wp P Q { a with defers := { target := .collected D, args := #[] } :: a.defers } W) :
    (Code.rangeFunc g ps assign body).wp P Q a w :=
  wpIn_wide.1 (wpIn_rangeFunc_iter hg eg hseq hG0 hRd hps I Ix hI hIx h0 hround hdone fun D c G W h1 h2 h3 h4 => wpIn_wide.2 (hstop D c G W h1 h2 h3 h4))

theorem Box.upd {S : Nat → Prop} {w w' : World} {b : Nat} {cs : Array Value} {t : TypeId} (h : Box w b cs t) (hu : Upd S w w') (hs : ¬ S b) : Box w' b cs t := (hu.block b h.lt hs).trans h
theorem Stable.and {I I' : (Nat → Prop) → World → Prop} (h : Stable I) (h' : Stable I') : Stable (fun G W => I G W ∧ I' G W) :=
  fun G G' A B ⟨a, b⟩ hu hg hb => ⟨h G G' A B a hu hg hb, h' G G' A B b hu hg hb⟩
/-- A block of the caller's, which the iterator leaves alone. -/
def OwnBox (b : Nat) (cs : Array Value) (t : TypeId) (G : Nat → Prop) (W : World) : Prop := ¬ G b ∧ Box W b cs t
theorem OwnBox.stable (b : Nat) (cs : Array Value) (t : TypeId) : Stable (OwnBox b cs t) := fun G G' A B ⟨h1, h2⟩ hu hg _ =>
  ⟨fun hx => (hg b hx).elim h1 (fun h => by have := h2.lt; omega), h2.upd hu h1⟩
/-- What lay in w lies still. -/
def OwnExt (w : World) (G : Nat → Prop) (W : World) : Prop := (∀ k, G k → w.heap.size ≤ k) ∧ Ext w W
theorem OwnExt.stable (w : World) : Stable (OwnExt w) := fun G G' A B ⟨h1, h2⟩ hu hg _ =>
  ⟨fun k hk => (hg k hk).elim (h1 k) (fun h => Nat.le_trans h2.size h), ((Upd.ofExt (S := fun _ => False) h2).comp (S' := fun k => G k ∧ w.heap.size ≤ k) (hu.mono fun i _ hx => ⟨hx, h1 i hx⟩) (fun i hi hx => by omega)).toExt (fun _ _ h => h)⟩
end Go.Proofs.YtekkngkphejfcaaDoor
