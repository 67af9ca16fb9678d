/- Drawn regions in several orders, on the view. -/
import Derived.Test.YtekkngkphejfcaaDoorDtr
import Derived.Test.YtekkngkphejfcaaDoorSchedTree
namespace Go.Proofs.YtekkngkphejfcaaDoor
open Go.RowKit

/-- A tree of orders; at its ends, the order in which the new objects are numbered. -/
inductive ST where
  | fin (π live : List Nat)
  | rd (i : Nat) (t : ST)
  | ef (i : Nat) (t alt : ST)
  | no
def altsOf : ST → List Nat
  | .ef i _ alt => i :: altsOf alt
  | _ => []
def stOk (ops : Array Oper) (early : List Nat) : Bool → Nat → ST → Array Bool → Bool
  | false, 0, .fin _ _, L => (List.range ops.size).all fun j => L.getD j true
  | false, m + 1, .rd i t, L => rdOk ops (fun j => early.contains j) i L && stOk ops early false m t (L.setIfInBounds i true)
  | b, m + 1, .ef i t alt, L => (b || Region.ready .any ops L == altsOf (.ef i .no alt)) && !plainAt ops i && stOk ops early false m t (L.setIfInBounds i true) && stOk ops early true (m + 1) alt L
  | true, _, .no, _ => true
  | _, _, _, _ => false
/-- Some of the objects alone. -/
def selX (p : Nat → Bool) (h : DH) : DH := (List.range h.length).map fun i => if p i then h.getD i none else none
def killX (xs : List Nat) (h : DH) : DH := selX (fun i => !xs.contains i) h
def aliveX (xs : List Nat) (h : DH) : Bool := xs.all fun k => decide (h.length ≤ k) || (h.getD k none).isSome
def keepsX (h h' : DH) : Bool := (List.range h.length).all fun k => !(h.getD k none).isSome || (h'.getD k none).isSome
def storeTo (S : St) (o : Oper) : Option Nat := match o.op with
  | .store _ x _ => match opd S.fr x with
    | .ref k _ => some k
    | .mp k _ _ _ => some k
    | _ => none
  | _ => none
def sigP (σ : List Nat) (L n : Nat) : Bool := decide σ.Nodup && σ.all (fun k => decide (k < n)) && (List.range L).all fun k => decide (σ[k]? = some k)
def xsA (xs : List (Nat × Nat)) (nw : List Nat) : List Nat := xs.map (·.2) ++ nw
def xsJ (xs : List (Nat × Nat)) (nw : List Nat) (j : Nat) : List Nat := (xs.filter fun q => q.1 == j).map (·.2) ++ nw
def xsI (ops : Array Oper) (xs : List (Nat × Nat)) (nw : List Nat) (i : Nat) : List Nat := (xs.filter fun q => !waits ops ops.size q.1 i).map (·.2) ++ nw
def efOk (early : List Nat) (xs : List (Nat × Nat)) (nw : List Nat) (S S1 : St) (i : Nat) (o : Oper) (ext : Bool) : Bool :=
  aliveX (xsA xs nw) S.h && aliveX (xsA xs nw) S1.h && ((xsA xs nw).all (fun k => decide (k < S.h.length)) || keepsX S.h S1.h) && (!(early.contains i) || ext || (match storeTo S o with | some k => (xsJ xs nw i).contains k | none => false))
def sigT (π : List Nat) (L0 : Nat) : List Nat := List.range L0 ++ π.map (· + L0)
/-- What the tree comes to: bounds and readings that have to hold. -/
def treeV (P : Program) (Γ : Glo) (ops : Array Oper) (early : List Nat) (xs : List (Nat × Nat)) (nw : List Nat) (L0 : Nat) (S' : St) : ST → St → Orc → Option (List Prop × Orc)
  | .no, _, orc => some ([], orc)
  | .fin π live, S, orc => if sigP (sigT π L0) L0 S.h.length then some ([compactX (sigT π L0) ⟨forget live S.fr, S.h⟩ = S'], orc) else none
  | .rd i t, S, orc => match ops[i]? with
    | none => none
    | some o => if aliveX (xsI ops xs nw i) S.h then match pstep P ops ⟨S.fr, killX (xsI ops xs nw i) S.h⟩ orc.co o with
      | none => none
      | some (S1, vs, co') => match treeV P Γ ops early xs nw L0 S' t ⟨S1.fr, S.h⟩ ⟨orc.calls, co', orc.fz, orc.tg⟩ with
        | none => none
        | some (vs', orc') => some (vs ++ vs', orc')
      else none
  | .ef i t alt, S, orc => match ops[i]? with
    | none => none
    | some o => match astep P Γ ops S orc o with
      | none => none
      | some (S1, vs, ext, orc1) => if efOk early xs nw S S1 i o ext then
        match treeV P Γ ops early xs nw L0 S' t S1 orc1 with
        | none => none
        | some (vs1, orc2) => match treeV P Γ ops early xs nw L0 S' alt S orc2 with
          | none => none
          | some (vs2, orc3) => some (vs ++ (vs1 ++ vs2), orc3)
        else none
def TOk (ops : Array Oper) (early : List Nat) (t : ST) : Prop := (stOk ops early false ops.size t (Array.replicate ops.size false) && Region.noSelect ops && noDefer ops) = true
/-- A region by its tree: what early stores write, and where it ends, are told. -/
def tseq (P : Program) (Γ : Glo) (ops : Array Oper) (early : List Nat) (t : ST) (S : St) (orc : Orc) : Option (St × List Prop × Orc) := match orc.tg with
  | [] => none
  | (ks, S') :: rest => match treeV P Γ ops early ks (List.range' S.h.length ops.size) S.h.length S' t S ⟨orc.calls, orc.co, orc.fz, rest⟩ with
    | none => none
    | some (vs, orc') => some (S', vs, orc')

theorem get_selX {p : Nat → Bool} {h : DH} {i : Nat} {o : DO} (hi : (selX p h)[i]? = some (some o)) : h[i]? = some (some o) ∧ p i = true := by
  unfold selX at hi
  rw [List.getElem?_map] at hi
  cases hr : (List.range h.length)[i]? with
  | none => rw [hr] at hi; cases hi
  | some j =>
    have hj : i < h.length ∧ i = j := by
      have := List.getElem?_eq_some_iff.1 hr
      obtain ⟨h1, h2⟩ := this
      simp at h1 h2
      exact ⟨h1, h2⟩
    rw [hr] at hi
    obtain ⟨h1, rfl⟩ := hj
    have hi : (if p i then h.getD i none else none) = some o := Option.some.inj hi
    split at hi
    · exact ⟨by rw [List.getD_eq_getElem?_getD, List.getElem?_eq_getElem h1] at hi; rw [List.getElem?_eq_getElem h1]; exact congrArg some hi, by assumption⟩
    · cases hi
theorem selX_length {p : Nat → Bool} {h : DH} : (selX p h).length = h.length := by simp [selX]
theorem getD_selX {p : Nat → Bool} {h : DH} {k : Nat} (hp : p k = true) (hk : k < h.length) : (selX p h)[k]? = h[k]? := by
  unfold selX
  rw [List.getElem?_map, List.getElem?_range hk]
  simp [hp, List.getD_eq_getElem?_getD, hk]

section
variable {P : Program} {Γ : Glo} {N : Nat → Prop} {S : St} {ρ : List Place} {a : Act} {w : World}

/-- Objects that are left out become foreign. -/
theorem Rel.sel (R : Rel P Γ N S ρ a w) (p : Nat → Bool) : Rel P Γ (fun b => N b ∨ ∃ k o q, p k = false ∧ S.h[k]? = some (some o) ∧ ρ[k]? = some q ∧ q.foot b) ⟨S.fr, selX p S.h⟩ ρ a w := by
  have hM : ∀ b, MS (fun b => N b ∨ ∃ k o q, p k = false ∧ S.h[k]? = some (some o) ∧ ρ[k]? = some q ∧ q.foot b) (selX p S.h) ρ b → MS N S.h ρ b := by
    rintro b ((h | ⟨k, o, q, h1, h2, h3, h4⟩) | ⟨k, o, q, h1, h2, h3⟩)
    · exact .inl h
    · exact .inr ⟨k, o, q, h2, h3, h4⟩
    · exact .inr ⟨k, o, q, (get_selX h1).1, h2, h3⟩
  refine ⟨⟨by rw [selX_length]; exact R.hr.len, fun i o hi => ?_, fun i o q b g1 g2 g3 => ?_, fun i i' o1 o2 p1 p2 b hne g1 g2 g3 g4 g5 g6 => R.hr.dis i i' o1 o2 p1 p2 b hne (get_selX g1).1 (get_selX g2).1 g3 g4 g5 g6, ?_, R.hr.gi⟩, R.fr.out (out_iff hM ρ)⟩
  · obtain ⟨q, hq, hr⟩ := R.hr.obj i o (get_selX hi).1
    exact ⟨q, hq, hr.out (out_iff hM ρ) (S := fun _ => False) (Upd.refl _ _) (fun _ h => h.elim) fun _ _ _ h => h⟩
  · obtain ⟨hi, hpi⟩ := get_selX g1
    obtain ⟨c1, c2, c3⟩ := R.hr.cel i o q b hi g2 g3
    refine ⟨c1, ?_, c3⟩
    rintro (h | ⟨k, o', q', h1, h2, h3, h4⟩)
    · exact c2 h
    · exact R.hr.dis i k o o' q q' b (fun e => by subst e; rw [hpi] at h1; cases h1) hi h2 g2 h3 g3 h4
  · rintro b (h | ⟨k, o', q', h1, h2, h3, h4⟩)
    · exact R.hr.nlt b h
    · obtain ⟨c1, _, c, t, z, c3⟩ := R.hr.cel k o' q' b h2 h3 h4
      exact ⟨(Array.getElem?_eq_some_iff.1 c3).1, c1⟩
/-- A frame that stands beside some of the objects stands beside all. -/
theorem Rel.unsel {p : Nat → Bool} {fr : List DV} (R0 : HRel P Γ N S.h ρ w) (R : FrRep (MS (fun b => N b ∨ ∃ k o q, p k = false ∧ S.h[k]? = some (some o) ∧ ρ[k]? = some q ∧ q.foot b) (selX p S.h) ρ) w ρ fr a.tmps) : Rel P Γ N ⟨fr, S.h⟩ ρ a w := by
  refine ⟨R0, R.out (out_iff (fun b hb => ?_) ρ)⟩
  rcases hb with h | ⟨k, o, q, h1, h2, h3⟩
  · exact .inl (.inl h)
  · cases hp : p k with
    | false => exact .inl (.inr ⟨k, o, q, hp, h1, h2, h3⟩)
    | true =>
      refine .inr ⟨k, o, q, ?_, h2, h3⟩
      rw [getD_selX hp (List.getElem?_eq_some_iff.1 h1).1]; exact h1

/-- Blocks that operations may touch which come early. -/
def Zs (xs : List Nat) (ρ : List Place) (w : World) (b : Nat) : Prop := (∃ k q, k ∈ xs ∧ ρ[k]? = some q ∧ q.foot b) ∨ w.heap.size ≤ b
theorem keep_of_upd {xs : List Nat} (R : HRel P Γ N S.h ρ w) (hal : aliveX xs S.h = true) {W : World} (hu : Upd (Zs xs ρ w) w W) : Keep (fun b => N b ∨ ∃ k o q, (!xs.contains k) = false ∧ S.h[k]? = some (some o) ∧ ρ[k]? = some q ∧ q.foot b) w W := by
  intro b o u hb hc
  have hlt : b < w.heap.size := World.block_lt_of_cell? w ⟨b, o, none⟩ hc
  refine (cell_block (hu.block b hlt ?_)).trans hc
  rintro (⟨k, q, h1, h2, h3⟩ | h)
  · have hk : k < S.h.length := by rw [← R.len]; exact (List.getElem?_eq_some_iff.1 h2).1
    have hx := List.all_eq_true.1 hal k h1
    simp only [Bool.or_eq_true, decide_eq_true_eq] at hx
    rcases hx with hx | hx
    · omega
    · cases hg : S.h.getD k none with
      | none => rw [hg] at hx; cases hx
      | some ob => exact hb (.inr ⟨k, ob, q, by simp [h1], getD_some hg, h2, h3⟩)
  · omega

theorem execOp_store {ρ' : Operand → Value} {o : Oper} {t : TypeId} {x y : Operand} (ho : o.op = .store t x y) {nx : Next} {w w' : World} (h : (execOp ρ' o).run P w = .ok nx w') : nx = .skip := by
  unfold execOp at h
  rw [ho] at h
  have h : (Instr.storeAt t (ρ' x) (ρ' y) >>= fun _ => (pure .skip : Sem Next)).run P w = .ok nx w' := h
  rw [Sem.run_bind] at h
  cases hs : (Instr.storeAt t (ρ' x) (ρ' y)).run P w with
  | ok v w1 => rw [hs] at h; simp only [Result.andThen] at h; cases h; rfl
  | halt x w1 => rw [hs] at h; simp only [Result.andThen] at h; cases h
theorem Does.store {ρ' : Operand → Value} {o : Oper} {t : TypeId} {x y : Operand} (ho : o.op = .store t x y) {w : World} {G G' : Value → World → Prop} (h : Does P (execOp ρ' o) w G) (h' : Does P (execOp ρ' o) w G') : Does P (execOp ρ' o) w (fun v W => G v W ∧ G' v W) := by
  rcases h with ⟨v, w1, h1, _⟩ | ⟨w1, h1, h2⟩ | ⟨f, as, w1, h1, _⟩
  · cases execOp_store ho h1
  · rcases h' with ⟨v, w2, g1, _⟩ | ⟨w2, g1, g2⟩ | ⟨f, as, w2, g1, _⟩
    · cases execOp_store ho g1
    · rw [h1] at g1
      cases g1
      exact .inr (.inl ⟨w1, h1, h2, g2⟩)
    · cases execOp_store ho g1
  · cases execOp_store ho h1
theorem storeD_only {t : TypeId} {x d : DV} {k : Nat} {h' : DH} {vc : Prop} (hx : (∃ j, x = .ref k j) ∨ ∃ m i j, x = .mp k m i j) (h : storeD P S t x d = some (h', vc)) : k < S.h.length ∧ ∃ h2, storeD P ⟨S.fr, selX (fun i => i == k) S.h⟩ t x d = some (h2, vc) := by
  have key : ∀ {o : DO}, S.h[k]? = some (some o) → k < S.h.length ∧ (selX (fun i => i == k) S.h)[k]? = some (some o) := fun {o} ho => by
    have hk := (List.getElem?_eq_some_iff.1 ho).1
    exact ⟨hk, by rw [getD_selX (by simp) hk]; exact ho⟩
  unfold storeD at h ⊢
  rcases hx with ⟨j, rfl⟩ | ⟨m, i, j, rfl⟩
  · simp only at h ⊢
    split at h
    · rename_i l hl
      obtain ⟨h1, h2⟩ := key hl
      refine ⟨h1, ?_⟩
      simp only [h2]
      repeat' (split at h)
      all_goals first | (cases h; done) | skip
      cases h
      rename_i q1 q2 q3
      simp only [q1, q2, q3, if_true]
      exact ⟨_, rfl⟩
    · cases h
  · simp only at h ⊢
    split at h
    · rename_i hsz
      split at h
      · rename_i l hl
        obtain ⟨h1, h2⟩ := key hl
        refine ⟨h1, ?_⟩
        simp only [h2, hsz, if_true]
        repeat' (split at h)
        all_goals first | (cases h; done) | skip
        cases h
        rename_i q1
        simp only [q1, if_true]
        exact ⟨_, rfl⟩
      · rename_i l hl
        obtain ⟨h1, h2⟩ := key hl
        refine ⟨h1, ?_⟩
        simp only [h2, hsz, if_true]
        repeat' (split at h)
        all_goals first | (cases h; done) | skip
        cases h
        rename_i q1
        simp only [q1, if_true]
        exact ⟨_, rfl⟩
      · rename_i m' n f hl
        obtain ⟨h1, h2⟩ := key hl
        refine ⟨h1, ?_⟩
        simp only [h2, hsz, if_true]
        repeat' (split at h)
        all_goals first | (cases h; done) | skip
        cases h
        rename_i q1
        simp only [q1, if_true]
        exact ⟨_, rfl⟩
      · cases h
    · cases h

theorem storeTo_spec {o : Oper} {k : Nat} (h : storeTo S o = some k) : ∃ t x y, o.op = .store t x y ∧ ((∃ j, opd S.fr x = .ref k j) ∨ ∃ m i j, opd S.fr x = .mp k m i j) := by
  unfold storeTo at h
  split at h
  · rename_i t x y ho
    refine ⟨t, x, y, ho, ?_⟩
    split at h
    · rename_i j e; cases h; exact .inl ⟨j, e⟩
    · rename_i m i j e; cases h; exact .inr ⟨m, i, j, e⟩
    · cases h
  · cases h
theorem actD_store {calls : List (DV × DH × Bool)} {o : Oper} {t : TypeId} {x y : Operand} (ho : o.op = .store t x y) {d : DV} {h' : DH} {vs : List Prop} {ext : Bool} {calls' : List (DV × DH × Bool)} (h : actD P Γ S calls o.op = some (d, h', vs, ext, calls')) : ∃ vc, storeD P S t (opd S.fr x) (opd S.fr y) = some (h', vc) ∧ vs = [vc] := by
  rw [ho] at h
  simp only [actD] at h
  split at h
  · rename_i h1 vc hs
    cases h
    exact ⟨vc, hs, rfl⟩
  · cases h
theorem actD_soundX (R : Rel P Γ N S ρ a w) {calls : List (DV × DH × Bool)} {o : Oper} {d : DV} {h' : DH} {vs : List Prop} {ext : Bool} {calls' : List (DV × DH × Bool)} (h : actD P Γ S calls o.op = some (d, h', vs, ext, calls')) (hv : allP vs) :
    Does P (execOp a.eval o) w (fun v w' => Got P Γ N S.h ρ w ext d h' v w' ∧ ∀ k, storeTo S o = some k → Upd (fun b => ∃ q, ρ[k]? = some q ∧ q.foot b) w w') := by
  cases hst : storeTo S o with
  | none =>
    have D := actD_sound R h hv
    rcases D with ⟨v, w1, h1, h2⟩ | ⟨w1, h1, h2⟩ | ⟨f, as, w1, h1, h2⟩
    · exact .inl ⟨v, w1, h1, h2, fun k hk => by cases hk⟩
    · exact .inr (.inl ⟨w1, h1, h2, fun k hk => by cases hk⟩)
    · exact .inr (.inr ⟨f, as, w1, h1, h2.mono fun e w'' ⟨v, e1, e2⟩ => ⟨v, e1, e2, fun k hk => by cases hk⟩⟩)
  | some k =>
    obtain ⟨t, x, y, ho, hx⟩ := storeTo_spec hst
    have D := actD_sound R h hv
    obtain ⟨vc, hs, rfl⟩ := actD_store ho h
    obtain ⟨_, h2, hs2⟩ := storeD_only hx hs
    have D2 := storeD_sound (Rel.sel R (fun i => i == k)) (tx := x) (x := y) hs2 hv.1 o ho
    have D3 := Does.store ho D D2
    rcases D3 with ⟨v, w1, h1, g1, g2⟩ | ⟨w1, h1, g1, g2⟩ | ⟨f, as, w1, h1, _⟩
    · cases execOp_store ho h1
    · refine .inr (.inl ⟨w1, h1, g1, fun k' hk' => ?_⟩)
      cases hk'
      obtain ⟨ρ2, _, _, st, _⟩ := g2.ex
      refine st.upd.mono fun b _ hb => ?_
      obtain ⟨i, o', q, q1, q2, q3⟩ := hb
      have := (get_selX q1).2
      have e : i = k := by simpa using this
      subst e
      exact ⟨q, q2, q3⟩
    · cases execOp_store ho h1
theorem astep_soundX {F : Fence} (hF : FOk F P) (R : Rel P Γ N S ρ a w) {ops : Array Oper} {orc : Orc} {o : Oper} (hd : ∀ c, o.op ≠ .defer c) {S' : St} {vs : List Prop} {ext : Bool} {orc' : Orc} (h : astep P Γ ops S orc o = some (S', vs, ext, orc')) (hv : allP vs)
    {K : Act → World → Prop} {Q : Exit → Act → World → Prop} (hK : ∀ ρ' a' w', Rel P Γ N S' ρ' a' w' → StepP S.h ρ w S'.h ρ' w' → a'.defers = a.defers → (ext = true → Ext w w') → (∀ k, storeTo S o = some k → Upd (fun b => ∃ q, ρ[k]? = some q ∧ q.foot b) w w') → K a' w') :
    if Region.wanted o (yielded ops a.tmps) then o.wpIn F 0 P a w K Q else (∀ f, o.about P w a.eval = some f → F.fn f) ∧ K (a.put o.dst undef) w := by
  have hdef : ∀ v, (a.put o.dst v).defers = a.defers := fun v => by cases ho : o.dst <;> simp [Act.put]
  unfold astep at h
  split at h
  · cases h
  · rename_i hw
    cases h
    rw [if_neg (by rw [wantedD_sound R hw]; exact Bool.false_ne_true)]
    exact ⟨fun f _ => hF.fn f, hK ρ _ _ (setD_rel R _ undD_rep) (StepP.refl _ _ _) (hdef _) (fun _ => Ext.refl w) fun _ _ => Upd.refl _ _⟩
  · rename_i hw
    rw [if_pos (wantedD_sound R hw)]
    split at h
    · rename_i S1 vs1 hM
      cases h
      refine does_wpIn hF hd (storeM_sound R hM hv) fun v w' ⟨⟨ρ', g1, g2⟩, k, i, p, t, x, y, q1, q2, q3, q4⟩ => hK ρ' _ _ g1 g2 (hdef v) (fun e => by cases e) fun k' hk' => ?_
      have e : k' = k := by
        unfold storeTo at hk'
        rw [q1] at hk'
        simp only [q2] at hk'
        exact (Option.some.inj hk').symm
      subst e
      exact q4.mono fun b _ hb => ⟨p, q3, hb⟩
    split at h
    · cases h
    · rename_i d h1 vs1 ext1 calls hact
      split at h
      rename_i d' vs' co' hco
      split at h
      · cases h
      · rename_i S2 vs'' fz' hfz
        cases h
        obtain ⟨hv1, hv23⟩ := allP_append.1 hv
        obtain ⟨hv2, hv3⟩ := allP_append.1 hv23
        refine does_wpIn hF hd (actD_soundX R hact hv1) fun v w' G => ?_
        obtain ⟨ρ', g1, g2⟩ := got_rel R o.dst G.1 (d' := d') fun M ρ' hr => coD_sound hco hv2 hr
        obtain ⟨g3, g4⟩ := frzs_sound _ hfz hv3 P Γ N ρ' _ _ g1
        exact hK ρ' _ _ g3 (g2.trans ⟨g4, fun _ _ h => h⟩) (hdef v) G.1.ext G.2

theorem tree_sound {F : Fence} (hF : FOk F P) {ops : Array Oper} (hnd : noDefer ops = true) (hs : Region.noSelect ops = true) {early : List Nat} {xs : List (Nat × Nat)} {nw : List Nat} {L0 : Nat} {S' : St} {Q : Exit → Act → World → Prop} :
    ∀ (t : ST) (m : Nat) (L : Array Bool) {S : St} {ρ : List Place} {a : Act} {w : World} {vs : List Prop} {orc orc' : Orc}, Closed ops L → Rel P Γ N S ρ a w → treeV P Γ ops early xs nw L0 S' t S orc = some (vs, orc') → allP vs →
    (∀ ρ' a' w', Rel P Γ N S' ρ' a' w' → Step S.h ρ w S'.h ρ' w' → (∀ k p, k < L0 → ρ[k]? = some p → ρ'[k]? = some p) → a'.defers = a.defers → Q .normal a' w') →
    (stOk ops early false m t L = true → wpR F 0 P ops Q (RZ ops (fun j => early.contains j) (fun j => Zs (xsJ xs nw j) ρ w)) m L a w) ∧
    (stOk ops early true m t L = true → ∀ i ∈ altsOf t, i ∈ Region.ready .any ops L → ∃ m', m = m' + 1 ∧ wpOpIn F 0 P ops (NP Q) i (fun a' w' => RZ ops (fun j => early.contains j) (fun j => Zs (xsJ xs nw j) ρ w) i w w' ∧ wpR F 0 P ops Q (RZ ops (fun j => early.contains j) (fun j => Zs (xsJ xs nw j) ρ w)) m' (L.setIfInBounds i true) a' w') a w) := by
  intro t
  induction t with
  | no =>
    intro m L S ρ a w vs orc orcE hcl R hV hv hQ
    exact ⟨fun h => by cases m <;> simp [stOk] at h, fun _ i hi => by cases hi⟩
  | fin π live =>
    intro m L S ρ a w vs orc orcE hcl R hV hv hQ
    refine ⟨fun h => ?_, fun h => by cases m <;> simp [stOk] at h⟩
    cases m with
    | succ m => simp [stOk] at h
    | zero =>
      simp only [stOk, List.all_eq_true, List.mem_range] at h
      refine ⟨h, ?_⟩
      simp only [treeV] at hV
      split at hV
      · rename_i hσ
        cases hV
        simp only [sigP, Bool.and_eq_true, decide_eq_true_eq, List.all_eq_true, List.mem_range] at hσ
        obtain ⟨ρ0, R0, st0, k0⟩ := SLe.forget (L := L0) live S.fr S.h P Γ N ρ a w R
        obtain ⟨ρ', R', st', k'⟩ := SLe.compact (L := L0) (sigT π L0) ⟨forget live S.fr, S.h⟩ hσ.1.1 (fun k hk => hσ.1.2 k hk) (fun k hk => hσ.2 k hk) P Γ N ρ0 a w R0
        have st := st0.trans st'
        have e : compactX (sigT π L0) ⟨forget live S.fr, S.h⟩ = S' := hv.1
        rw [e] at R' st st'
        exact hQ ρ' a w R' st (fun k p hk hp => k' k p hk (k0 k p hk hp)) rfl
      · cases hV
  | rd i t ih =>
    intro m L S ρ a w vs orc orcE hcl R hV hv hQ
    refine ⟨fun h => ?_, fun h => by cases m <;> simp [stOk] at h⟩
    cases m with
    | zero => simp [stOk] at h
    | succ m =>
      simp only [stOk, Bool.and_eq_true] at h
      simp only [treeV] at hV
      split at hV
      · cases hV
      · rename_i o ho
        split at hV
        · rename_i hal
          split at hV
          · cases hV
          · rename_i S1 vs1 co1 hp
            split at hV
            · cases hV
            · rename_i vs2 orc2 h2
              cases hV
              obtain ⟨hv1, hv2⟩ := allP_append.1 hv
              have RK := Rel.sel R (fun k => !(xsI ops xs nw i).contains k)
              obtain ⟨e1, hst⟩ := pstep_sound RK hp hv1
              have hdef : ∀ v, (a.put o.dst v).defers = a.defers := fun v => by cases ho : o.dst <;> simp [Act.put]
              have hready : (Region.ready .any ops L).contains i = true := by
                have := h.1
                simp only [rdOk, Bool.and_eq_true] at this
                exact this.1.1.1
              have back : ∀ v, FrRep (MS (fun b => N b ∨ ∃ k o q, (!(xsI ops xs nw i).contains k) = false ∧ S.h[k]? = some (some o) ∧ ρ[k]? = some q ∧ q.foot b) S1.h ρ) w ρ S1.fr (a.put o.dst v).tmps → Rel P Γ N ⟨S1.fr, S.h⟩ ρ (a.put o.dst v) w := fun v hr => by
                rw [e1] at hr
                exact Rel.unsel (p := fun k => !(xsI ops xs nw i).contains k) R.hr hr
              have hZ : ∀ j, waits ops ops.size j i = false → ∀ b, Zs (xsJ xs nw j) ρ w b → Zs (xsI ops xs nw i) ρ w b := by
                rintro j hj b (⟨k, q, k1, k2, k3⟩ | hb)
                · refine .inl ⟨k, q, ?_, k2, k3⟩
                  unfold xsJ at k1
                  unfold xsI
                  rcases List.mem_append.1 k1 with k1 | k1
                  · obtain ⟨p, p1, p2⟩ := List.mem_map.1 k1
                    obtain ⟨p3, p4⟩ := List.mem_filter.1 p1
                    have : p.1 = j := by simpa using p4
                    exact List.mem_append.2 (.inl (List.mem_map.2 ⟨p, List.mem_filter.2 ⟨p3, by rw [this, hj]; rfl⟩, p2⟩))
                  · exact List.mem_append.2 (.inr k1)
                · exact .inr hb
              rcases hst with ⟨hw, v, g1, g2⟩ | ⟨hw, g2⟩
              · refine rd_sound (Zi := Zs (xsI ops xs nw i) ρ w) hF.fn hnd hs ho hcl h.1 hZ (.inl ⟨hw, fun W hu => g1 W (keep_of_upd R.hr hal hu)⟩) ?_
                exact (ih m _ (closed_set hcl hready) (back v g2.fr) h2 hv2 fun ρ' a' w' q1 q2 q3 q4 => hQ ρ' a' w' q1 q2 q3 (q4.trans (hdef v))).1 h.2
              · refine rd_sound (Zi := Zs (xsI ops xs nw i) ρ w) hF.fn hnd hs (v := undef) ho hcl h.1 hZ (.inr ⟨hw, rfl⟩) ?_
                exact (ih m _ (closed_set hcl hready) (back undef g2.fr) h2 hv2 fun ρ' a' w' q1 q2 q3 q4 => hQ ρ' a' w' q1 q2 q3 (q4.trans (hdef undef))).1 h.2
        · cases hV
  | ef i t alt ih1 ih2 =>
    intro m L S ρ a w vs orc orcE hcl R hV hv hQ
    simp only [treeV] at hV
    split at hV
    · cases hV
    · rename_i o ho
      split at hV
      · cases hV
      · rename_i S1 vs1 ext orc1 h1
        split at hV
        · rename_i hch
          simp only [efOk, Bool.and_eq_true, Bool.or_eq_true] at hch
          obtain ⟨⟨⟨hal, hal1⟩, hkeep⟩, hearly⟩ := hch
          split at hV
          · cases hV
          rename_i vs2 orc2 h2
          split at hV
          · cases hV
          · rename_i vs3 orc3 h3
            cases hV
            obtain ⟨hv1, hv'⟩ := allP_append.1 hv
            obtain ⟨hv2, hv3⟩ := allP_append.1 hv'
            have A := ih2 m L hcl R h3 hv3 hQ
            have sub : ∀ {j k : Nat}, k ∈ xsJ xs nw j → k ∈ xsA xs nw := fun {j k} hk => by
              unfold xsJ at hk
              unfold xsA
              rcases List.mem_append.1 hk with hk | hk
              · obtain ⟨p, p1, p2⟩ := List.mem_map.1 hk
                exact List.mem_append.2 (.inl (List.mem_map.2 ⟨p, (List.mem_filter.1 p1).1, p2⟩))
              · exact List.mem_append.2 (.inr hk)
            have one : ∀ b, stOk ops early b m (.ef i t alt) L = true → (Region.ready .any ops L).contains i = true → ∃ m', m = m' + 1 ∧ stOk ops early true m alt L = true ∧ wpOpIn F 0 P ops (NP Q) i (fun a' w' => RZ ops (fun j => early.contains j) (fun j => Zs (xsJ xs nw j) ρ w) i w w' ∧ wpR F 0 P ops Q (RZ ops (fun j => early.contains j) (fun j => Zs (xsJ xs nw j) ρ w)) m' (L.setIfInBounds i true) a' w') a w := by
              intro b hb hr
              cases m with
              | zero => cases b <;> simp [stOk] at hb
              | succ m =>
                have hb' : (!plainAt ops i) = true ∧ stOk ops early false m t (L.setIfInBounds i true) = true ∧ stOk ops early true (m + 1) alt L = true := by
                  cases b <;> simp only [stOk, Bool.and_eq_true] at hb <;> exact ⟨hb.1.1.2, hb.1.2, hb.2⟩
                obtain ⟨b1, b2, b3⟩ := hb'
                refine ⟨m, rfl, b3, ?_⟩
                unfold wpOpIn
                simp only [ho]
                refine astep_soundX hF R (noDefer_spec hnd ho) h1 hv1 fun ρ' a' w' R' st hdf hext hstore => ?_
                refine ⟨⟨fun hp => (by rw [hp] at b1; cases b1), fun he => ?_⟩, ?_⟩
                · rcases hearly with (h | h) | h
                  · have he : early.contains i = true := he
                    rw [he] at h; cases h
                  · exact Upd.ofExt (hext h)
                  · split at h
                    · rename_i k hk
                      refine (hstore k hk).mono fun b _ hb => ?_
                      obtain ⟨q, q1, q2⟩ := hb
                      exact .inl ⟨k, q, by simpa using h, q1, q2⟩
                    · cases h
                · have T := (ih1 m _ (closed_set hcl hr) R' h2 hv2 fun ρ2 a2 w2 q1 q2 q3 q4 => hQ ρ2 a2 w2 q1 (st.st.trans q2) (fun k p hk hp => q3 k p hk (st.pl k p hp)) (q4.trans hdf)).1 b2
                  refine wpR_mono (fun j w1 w2 hR => ⟨hR.1, fun he => (hR.2 he).mono fun b hb1 hb => ?_⟩) _ _ _ _ T
                  rcases hb with ⟨k, q, k1, k2, k3⟩ | hb
                  · by_cases hk : k < ρ.length
                    · have e := st.pl k _ (List.getElem?_eq_getElem hk)
                      rw [e] at k2
                      exact .inl ⟨k, q, k1, by rw [List.getElem?_eq_getElem hk]; exact k2, k3⟩
                    · refine .inr ?_
                      rw [R.hr.len] at hk
                      rcases hkeep with hx | hx
                      · have := List.all_eq_true.1 hx k (sub k1)
                        simp only [decide_eq_true_eq] at this
                        omega
                      · have hk' : k < S1.h.length := by rw [← R'.hr.len]; exact (List.getElem?_eq_some_iff.1 k2).1
                        have ha := List.all_eq_true.1 hal1 k (sub k1)
                        simp only [Bool.or_eq_true, decide_eq_true_eq] at ha
                        rcases ha with ha | ha
                        · omega
                        · cases hg : S1.h.getD k none with
                          | none => rw [hg] at ha; cases ha
                          | some ob =>
                            rcases st.st.grow b ⟨k, ob, q, getD_some hg, k2, k3⟩ with ⟨i2, o2, p2, g1, g2, g3⟩ | h
                            · exfalso
                              have hi2 := (List.getElem?_eq_some_iff.1 g1).1
                              have hx2 := List.all_eq_true.1 hx i2 (List.mem_range.2 hi2)
                              have e2 : S.h.getD i2 none = some o2 := by rw [List.getD_eq_getElem?_getD, g1]; rfl
                              rw [e2] at hx2
                              cases hg2 : S1.h.getD i2 none with
                              | none => rw [hg2] at hx2; cases hx2
                              | some ob2 => exact R'.hr.dis i2 k ob2 ob p2 q b (by omega) (getD_some hg2) (getD_some hg) (st.pl i2 p2 g2) k2 g3 k3
                            · exact h
                  · exact .inr (Nat.le_trans st.st.upd.size hb)
            refine ⟨fun h => ?_, fun h j hj hr => ?_⟩
            · have hready : Region.ready .any ops L = i :: altsOf alt := by
                cases m <;> simp only [stOk, Bool.and_eq_true, Bool.or_eq_true, beq_iff_eq, altsOf, Bool.false_eq_true, false_or] at h
                exact h.1.1.1
              obtain ⟨m', e, ha, hw⟩ := one false h (by rw [hready]; simp)
              subst e
              refine ⟨by rw [hready]; simp, fun j hj => ?_⟩
              have hj2 := hj
              rw [hready] at hj
              rcases List.mem_cons.1 hj with rfl | hj
              · exact hw
              · obtain ⟨m2, e2, hw2⟩ := A.2 ha j hj hj2
                cases e2
                exact hw2
            · rcases List.mem_cons.1 hj with rfl | hj
              · obtain ⟨m', e, ha, hw⟩ := one true h (by simpa using hr)
                exact ⟨m', e, hw⟩
              · have ha : stOk ops early true m alt L = true := by
                  cases m <;> simp only [stOk, Bool.and_eq_true] at h
                  · cases h
                  · exact h.2
                exact A.2 ha j hj hr
        · cases hV
theorem Tr.tree {F : Fence} {B : Option Nat} {L : Nat} {Y : Yard P Γ L} {Q : QY P Γ L} (hF : FOk F P) {id : Nat} {ops : Array Oper} {early : List Nat} {t : ST} {orc orc' : Orc} {S' : St} {vs : List Prop} (hm : P.follows .mixedOrders = true) (hB : TOk ops early t)
    (h : tseq P Γ ops early t S orc = some (S', vs, orc')) (hv : allP vs) (hk : Q .normal S' Y) : Tr P Γ F B L Y (.region id ops true) S Q := fun N ρ a w R y m b => by
  simp only [TOk, Bool.and_eq_true] at hB
  obtain ⟨⟨h1, h2⟩, h3⟩ := hB
  unfold tseq at h
  split at h
  · cases h
  split at h
  · cases h
  · rename_i hV
    cases h
    have hE : Ext w w.drew := Ext.toDrew w
    refine wpIn_region_R hm ((tree_sound hF h3 h2 t ops.size _ closed_start (R.ext hE) hV hv fun ρ' a' w' R' st hkp hdf => ?_).1 h1)
    have st' : Step S.h ρ w S'.h ρ' w' := (Step.ext hE).trans st
    exact Tr.done R y m b hk R' st' (fun k p _ hp => hkp k p (by rw [← R.hr.len]; exact (List.getElem?_eq_some_iff.1 hp).1) hp) hdf
end
end Go.Proofs.YtekkngkphejfcaaDoor
