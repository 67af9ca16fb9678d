/- Regions and statements on the plainer view: what is checked there holds of the walk. -/
import Derived.Test.YtekkngkphejfcaaDoorDmaq
namespace Go.Proofs.YtekkngkphejfcaaDoor
open Go.RowKit

/-- A function's contract on the view. -/
def ES (P : Program) (Γ : Glo) (f : Nat) (ds : List DV) (h : DH) (d : DV) (h' : DH) (ext : Bool) : Prop :=
  (∃ fn, P.funcs[f]? = some fn ∧ fn.name ≠ "runtime.NumGoroutine" ∧ fn.body.isSome = true) ∧
  ∀ (N : Nat → Prop) (ρ : List Place) (w : World) (args : Array Value), HRel P Γ N h ρ w → FrRep (MS N h ρ) w ρ ds args →
    Calls P f args w fun e w' => ∃ v, e = .returned v ∧ Got P Γ N h ρ w ext d h' v w'
structure Orc where
  calls : List (DV × DH × Bool)
  co : List (Nat × DV)
  fz : List (Nat × Fz) := []
  tg : List (List (Nat × Nat) × St) := []

/-- What no one has written. -/
def undD : DV := .tup 0 (fun j => ([] : List DV).getD j .any)
theorem undD_rep {M : Nat → Prop} {w : World} {ρ : List Place} : RepV M w undD ρ undef := ⟨#[], rfl, rfl, fun j hj => absurd hj (Nat.not_lt_zero j)⟩
def wantedD (ops : Array Oper) (S : St) (o : Oper) : Option Bool := match o.guard with
  | none => some true
  | some (j, want) => match (ops[j]?).bind (·.dst) with
    | some t => match S.fr.getD t .any with
      | .bool b => some (b == want)
      | .tup _ _ => some false
      | _ => none
    | none => none
def setD (fr : List DV) (dst : Option Nat) (d : DV) : List DV := match dst with
  | some t => fr.set t d
  | none => fr
def coD (co : List (Nat × DV)) (dst : Option Nat) (d : DV) : DV × List Prop × List (Nat × DV) := match co with
  | [] => (d, [], [])
  | (t, d') :: rest => match dst with
    | some t' => if t' = t then (d', [DLe d d'], rest) else (d, [], co)
    | none => (d, [], co)
def trivB (S : St) : Op → Bool
  | .move _ => true
  | .assign _ => true
  | .pick .. => true
  | .binOp .shl .. => false
  | .binOp .shr .. => false
  | .binOp _ _ _ y _ => match opd S.fr y with
    | .nils => false
    | _ => true
  | .unOp .. => true
  | .convert .. => true
  | .nilCheck _ => true
  | .fieldAddr .. => true
  | .extract .. => true
  | .makeFunc .. => true
  | .build .. => true
  | .field .. => true
  | .call _ => true
  | .load _ x => match opd S.fr x with
    | .mp .. => false
    | _ => true
  | _ => false
def isAct : Op → Bool
  | .box .. => true
  | .alloc _ => true
  | .buildSlice .. => true
  | .makeSlice .. => true
  | .store .. => true
  | .makeMap .. => true
  | .mapUpdate .. => true
  | .insert .. => true
  | .lookup .. => true
  | .range .. => true
  | .entry _ => true
  | .call c => match c.callee with
    | .builtin .append => true
    | .value _ => true
    | _ => false
  | _ => false

/-- An operation that reads. -/
def pstep (P : Program) (ops : Array Oper) (S : St) (co : List (Nat × DV)) (o : Oper) : Option (St × List Prop × List (Nat × DV)) := match wantedD ops S o with
  | none => none
  | some false => some (⟨setD S.fr o.dst undD, S.h⟩, [], co)
  | some true => match pops P S o.op with
    | none => none
    | some (d, vc) => match coD co o.dst d with
      | (d', vs, co') => some (⟨setD S.fr o.dst d', S.h⟩, (if trivB S o.op then vs else vc :: vs), co')
def pseq (P : Program) (ops : Array Oper) : List Oper → St → List (Nat × DV) → Option (St × List Prop × List (Nat × DV))
  | [], S, co => some (S, [], co)
  | o :: rest, S, co => match pstep P ops S co o with
    | none => none
    | some (S', vs, co') => match pseq P ops rest S' co' with
      | none => none
      | some (S'', vs', co'') => some (S'', vs ++ vs', co'')
/-- An operation that makes, writes, calls. -/
def actD (P : Program) (Γ : Glo) (S : St) (calls : List (DV × DH × Bool)) : Op → Option (DV × DH × List Prop × Bool × List (DV × DH × Bool))
  | .box _ x => match dcells (opd S.fr x) with
    | some l => some (.ref S.h.length 0, S.h ++ [some (.cells l)], [], true, calls)
    | none => none
  | .alloc t => match P.info? t with
    | some i => match i.zero with
      | some z => if zboolsB z then some (.mp S.h.length 1 0 0, S.h ++ [some (.bools (List.replicate z.cells.size false))], [], true, calls)
        else some (.ref S.h.length 0, S.h ++ [some (.cells (z.cells.toList.map ofV))], [], true, calls)
      | none => none
    | none => none
  | .buildSlice t len parts => match ekB P t with
    | some (k, _, _, _) => if denseB parts.toList len && decide (len ≤ 65536 ∧ k.cells ≤ 64) then match buildD k (parts.toList.map fun x => opd S.fr x.2) with
      | some ob => some (.msl S.h.length k.cells 0 len, S.h ++ [some ob], [], true, calls)
      | none => none
      else none
    | none => none
  | .makeSlice t x y => match mslT P t with
   | some (n, _, _) => match opd S.fr x, opd S.fr y with
    | .int _ m, .int _ m' => some (.msl S.h.length 1 0 m.toNat, S.h ++ [some (.mo (.sets n (List.replicate m.toNat none) none))], [m' = m ∧ 0 ≤ m ∧ m ≤ 1000000000000], true, calls)
    | _, _ => none
   | none => match ekB P t with
    | some (k, _, i, z) => if decide (i.bytes ≤ 128) then match opd S.fr x, opd S.fr y with
      | .int _ n, .int _ n' => some (.msl S.h.length k.cells 0 n.toNat, S.h ++ [some (makeD k n.toNat z)], [n' = n ∧ 0 ≤ n ∧ n ≤ 1000000000000], true, calls)
      | _, _ => none
      else none
    | none => none
  | .store t x y => match storeD P S t (opd S.fr x) (opd S.fr y) with
    | some (h', vc) => some (.any, h', [vc], false, calls)
    | none => none
  | .call c => match c.callee with
    | .builtin .append => match c.args.toList with
      | [x, y] => match c.argTypes.toList with
        | [t, t'] => if t = t' then match appendD P S t (opd S.fr x) (opd S.fr y) with
          | some (d, h', vc) => some (d, h', [vc], false, calls)
          | none => none
          else none
        | _ => none
      | _ => none
    | .value f => match opd S.fr f, calls with
      | .fn g m cap, (d, h', ext) :: rest => some (d, h', [ES P Γ g (c.args.toList.map (opd S.fr) ++ (List.range m).map cap) S.h d h' ext], ext, rest)
      | _, _ => none
    | _ => none
  | op => match mapD P S op with
    | some (d, h', vs, ext) => some (d, h', vs, ext, calls)
    | none => none
def astep (P : Program) (Γ : Glo) (ops : Array Oper) (S : St) (orc : Orc) (o : Oper) : Option (St × List Prop × Bool × Orc) := match wantedD ops S o with
  | none => none
  | some false => some (⟨setD S.fr o.dst undD, S.h⟩, [], true, orc)
  | some true => match storeM P S o with
   | some (S', vs) => some (S', vs, false, orc)
   | none => match actD P Γ S orc.calls o.op with
    | none => none
    | some (d, h', vs, ext, calls) => match coD orc.co o.dst d with
      | (d', vs', co') => match frzs orc.fz o.dst ⟨setD S.fr o.dst d', h'⟩ with
        | none => none
        | some (S', vs'', fz') => some (S', vs ++ (vs' ++ vs''), ext, ⟨calls, co', fz', orc.tg⟩)
def gseq (P : Program) (Γ : Glo) (ops : Array Oper) : List Oper → St → Orc → Option (St × List Prop × Orc)
  | [], S, orc => some (S, [], orc)
  | o :: rest, S, orc => match isAct o.op with
    | true => match astep P Γ ops S orc o with
      | none => none
      | some (S', vs, _, orc') => match gseq P Γ ops rest S' orc' with
        | none => none
        | some (S'', vs', orc'') => some (S'', vs ++ vs', orc'')
    | false => match pstep P ops S orc.co o with
      | none => none
      | some (S', vs, co') => match gseq P Γ ops rest S' ⟨orc.calls, co', orc.fz, orc.tg⟩ with
        | none => none
        | some (S'', vs', orc'') => some (S'', vs ++ vs', orc'')
def hseq (P : Program) (Γ : Glo) (ops : Array Oper) : List (List Nat × Nat) → List Nat → List Nat → St → Orc → Option (St × List Prop × Orc)
  | [], last, tail, S, orc => match pseq P ops (pickOps ops last) S orc.co with
    | none => none
    | some (S', vs, co') => match gseq P Γ ops (pickOps ops tail) S' ⟨orc.calls, co', orc.fz, orc.tg⟩ with
      | none => none
      | some (S'', vs', orc'') => some (S'', vs ++ vs', orc'')
  | (seg, i) :: more, last, tail, S, orc => match pseq P ops (pickOps ops seg) S orc.co with
    | none => none
    | some (S', vs, co') => match ops[i]? with
      | none => none
      | some o => match astep P Γ ops S' ⟨orc.calls, co', orc.fz, orc.tg⟩ o with
        | none => none
        | some (S'', vs', ext, orc') => match ext with
          | false => none
          | true => match hseq P Γ ops more last tail S'' orc' with
            | none => none
            | some (S3, vs3, orc3) => some (S3, vs ++ (vs' ++ vs3), orc3)
def noDefL (ops : Array Oper) : Bool := noDefer ops

section
variable {P : Program} {Γ : Glo} {N : Nat → Prop} {S : St} {ρ : List Place} {a : Act} {w : World} {F : Fence}

/-- The fences that the view knows. -/
structure FOk (F : Fence) (P : Program) : Prop where
  fn : ∀ f, F.fn f
  dep : F.depth = none
  calls : ∀ {f : FuncId} {args : Array Value} {w : World} {R : Ending → World → Prop}, Calls P f args w R → CallsIn F 0 P f args w R
theorem FOk.wide : FOk Fence.wide P := ⟨fun _ => trivial, rfl, fun h => callsIn_wide.2 h⟩
theorem FOk.round (l : Nat) : FOk (Fence.wide.inRound l) P := ⟨fun _ => trivial, rfl, fun h => CallsIn.inRound _ (callsIn_wide.2 h)⟩

theorem wantedD_sound (R : Rel P Γ N S ρ a w) {ops : Array Oper} {o : Oper} {r : Bool} (h : wantedD ops S o = some r) : Region.wanted o (yielded ops a.tmps) = r := by
  unfold wantedD at h
  unfold Region.wanted
  split at h
  · rename_i hg
    rw [hg]; cases h; rfl
  · rename_i j want hg
    rw [hg]
    split at h
    · rename_i t ht
      split at h
      · rename_i b hb
        cases h
        have hr := R.fr.at t
        rw [hb] at hr
        have hv : a.tmps.getD t undef = .bool b := hr
        have : a.tmps[t]? = some (.bool b) := by
          rw [Array.getD_eq_getD_getElem?] at hv
          cases hx : a.tmps[t]? with
          | none => rw [hx] at hv; cases hv
          | some u => rw [hx] at hv; exact congrArg some hv
        simp [yielded, ht, this]
      · rename_i m f hb
        cases h
        have hr := R.fr.at t
        rw [hb] at hr
        obtain ⟨cs, hv, _⟩ := hr
        have : yielded ops a.tmps j = none := by
          unfold yielded
          rw [ht]
          show (match a.tmps[t]? with | some (.bool b) => some b | _ => none) = none
          rw [Array.getD_eq_getD_getElem?] at hv
          cases hx : a.tmps[t]? with
          | none => rfl
          | some u => rw [hx] at hv; have hv : u = .tuple cs := hv; rw [hv]
        simp [this]
      · cases h
    · cases h

theorem setD_rel (R : Rel P Γ N S ρ a w) (dst : Option Nat) {d : DV} {v : Value} (hv : RepV (MS N S.h ρ) w d ρ v) : Rel P Γ N ⟨setD S.fr dst d, S.h⟩ ρ (a.put dst v) w := by
  refine ⟨R.hr, ?_⟩
  cases dst with
  | none => exact R.fr
  | some t => exact R.fr.set t hv
theorem coD_sound {co : List (Nat × DV)} {dst : Option Nat} {d d' : DV} {vs : List Prop} {co' : List (Nat × DV)} (h : coD co dst d = (d', vs, co')) (hv : allP vs) {M : Nat → Prop} {v : Value} (hr : RepV M w d ρ v) : RepV M w d' ρ v := by
  unfold coD at h
  split at h
  · cases h; exact hr
  · split at h
    · split at h
      · cases h; exact hv.1 M w ρ v hr
      · cases h; exact hr
    · cases h; exact hr

theorem pop_triv {op : Op} {d : DV} {vc : Prop} (h : pop P S op = some (d, vc)) (ht : trivB S op = true) : vc := by
  unfold pop at h
  split at h
  · cases h; trivial
  · cases h; trivial
  · repeat' (split at h)
    all_goals first | (cases h; trivial) | (cases h; done)
  · rename_i t x
    simp only [trivB] at ht
    unfold loadD at h
    repeat' (split at h)
    all_goals first | (cases h; trivial) | (cases h; done) | (simp_all; done)
  · rename_i op t x y t'
    unfold binD at h
    split at h
    · split at h
      all_goals first | (cases h; trivial) | (cases h; done)
    · split at h
      all_goals first | (cases h; trivial) | (cases h; done)
    · rename_i e; simp [trivB, e] at ht
    · rename_i e; simp [trivB, e] at ht
    · rename_i e; simp [trivB, e] at ht
    · cases ht
    · cases ht
    · split at h
      · unfold binI at h
        split at h
        all_goals first | (cases h; trivial) | (cases h; done)
      · cases h
    · cases h
  · repeat' (split at h)
    all_goals first | (cases h; trivial) | (cases h; done)
  · repeat' (split at h)
    all_goals first | (cases h; trivial) | (cases h; done)
  · repeat' (split at h)
    all_goals first | (cases h; trivial) | (cases h; done)
  · repeat' (split at h)
    all_goals first | (cases h; trivial) | (cases h; done)
  · cases ht
  · repeat' (split at h)
    all_goals first | (cases h; trivial) | (cases h; done)
  · split at h
    · cases h; trivial
    · cases h
  · split at h
    · unfold builtD at h
      split at h
      · split at h
        · split at h
          · unfold lenD at h
            split at h
            all_goals first | (cases h; trivial) | (cases h; done)
          · cases h
        · cases h
      · split at h
        · unfold maxD at h
          split at h
          all_goals first | (cases h; trivial) | (cases h; done)
        · cases h
      · split at h
        · unfold minD at h
          split at h
          all_goals first | (cases h; trivial) | (cases h; done)
        · cases h
      · cases h
    · cases h
  · cases h
theorem eqaD_triv {op : BinOp} {t : TypeId} {x y d : DV} {vc : Prop} (h : eqaD P op t x y = some (d, vc)) : vc := by
  unfold eqaD at h
  split at h
  · split at h
    all_goals first | (cases h; trivial) | (cases h; done)
  · split at h
    all_goals first | (cases h; trivial) | (cases h; done)
  · cases h
theorem triv_sound {op : Op} {d : DV} {vc : Prop} (h : pops P S op = some (d, vc)) (ht : trivB S op = true) : vc := by
  unfold pops at h
  split at h
  · unfold litD at h
    repeat' (split at h)
    all_goals first | (cases h; trivial) | (cases h; done)
  · cases ht
  · unfold fldD at h
    repeat' (split at h)
    all_goals first | (cases h; trivial) | (cases h; done)
  · cases ht
  · split at h
    · rename_i r hr
      cases h
      exact eqaD_triv hr
    · exact pop_triv h ht
  · exact pop_triv h ht

theorem pstep_sound (R : Rel P Γ N S ρ a w) {ops : Array Oper} {co : List (Nat × DV)} {o : Oper} {S' : St} {vs : List Prop} {co' : List (Nat × DV)} (h : pstep P ops S co o = some (S', vs, co')) (hv : allP vs) :
    S'.h = S.h ∧ ((Region.wanted o (yielded ops a.tmps) = true ∧ ∃ v, (∀ W, Keep N w W → (execOp a.eval o).run P W = .ok (.value v) W) ∧ Rel P Γ N S' ρ (a.put o.dst v) w) ∨ (Region.wanted o (yielded ops a.tmps) = false ∧ Rel P Γ N S' ρ (a.put o.dst undef) w)) := by
  unfold pstep at h
  split at h
  · cases h
  · rename_i hw
    cases h
    exact ⟨rfl, .inr ⟨wantedD_sound R hw, setD_rel R _ undD_rep⟩⟩
  · rename_i hw
    split at h
    · cases h
    · rename_i d vc hp
      split at h
      rename_i d' vs' co'' hco
      cases h
      have hvc : vc ∧ allP vs' := by
        by_cases ht : trivB S o.op = true
        · rw [if_pos ht] at hv; exact ⟨triv_sound hp ht, hv⟩
        · rw [if_neg ht] at hv; exact hv
      obtain ⟨v, g1, g2⟩ := pops_sound R o hp hvc.1
      exact ⟨rfl, .inl ⟨wantedD_sound R hw, v, g1, setD_rel R _ (coD_sound hco hvc.2 g2)⟩⟩

/-- In a drawn region: the reads of a segment. -/
theorem pseq_quiet {ops : Array Oper} {Q : Act → Prop} : ∀ (l : List Oper) {S : St} {a : Act} {co : List (Nat × DV)} {S' : St} {vs : List Prop} {co' : List (Nat × DV)}, Rel P Γ N S ρ a w → pseq P ops l S co = some (S', vs, co') → allP vs →
    (∀ a', S'.h = S.h → Rel P Γ N S' ρ a' w → a'.defers = a.defers → Q a') → wpQuiet P ops (fun w' => ∃ x : Later w, w' = x.W) Q l a
  | [], S, a, co, S', vs, co', R, h, _, hQ => by
    cases h
    exact hQ a rfl R rfl
  | o :: rest, S, a, co, S', vs, co', R, h, hv, hQ => by
    simp only [pseq] at h
    split at h
    · cases h
    · rename_i S1 vs1 co1 h1
      split at h
      · cases h
      · rename_i S2 vs2 co2 h2
        cases h
        obtain ⟨hv1, hv2⟩ := allP_append.1 hv
        obtain ⟨e1, hs⟩ := pstep_sound R h1 hv1
        unfold wpQuiet
        have hdef : ∀ v, (a.put o.dst v).defers = a.defers := fun v => by cases ho : o.dst <;> simp [Act.put]
        rcases hs with ⟨hw, v, g1, g2⟩ | ⟨hw, g2⟩
        · rw [if_pos hw]
          refine ⟨v, ?_, pseq_quiet rest g2 h2 hv2 fun a' q1 q2 q3 => hQ a' (q1.trans e1) q2 (q3.trans (hdef v))⟩
          rintro W ⟨x, rfl⟩
          unfold Oper.quietAt
          rw [g1 x.W (Keep.ofExt x.le)]
          exact ⟨rfl, rfl⟩
        · rw [if_neg (by rw [hw]; exact Bool.false_ne_true)]
          exact pseq_quiet rest g2 h2 hv2 fun a' q1 q2 q3 => hQ a' (q1.trans e1) q2 (q3.trans (hdef undef))

theorem FrRep.append {M : Nat → Prop} {l l' : List DV} {t t' : Array Value} (h : FrRep M w ρ l t) (h' : FrRep M w ρ l' t') : FrRep M w ρ (l ++ l') (t ++ t') := by
  refine ⟨by simp [h.1, h'.1], fun i hi => ?_⟩
  rcases Nat.lt_or_ge i l.length with hl | hl
  · have := h.2 i hl
    have ht : i < t.size := by rw [← h.1]; exact hl
    simp only [List.getD_eq_getElem?_getD, Array.getD_eq_getD_getElem?] at this ⊢
    rw [List.getElem?_append_left hl, Array.getElem?_append_left ht]
    exact this
  · have hi' : i - l.length < l'.length := by simp at hi; omega
    have := h'.2 _ hi'
    have ht : t.size ≤ i := by rw [← h.1]; exact hl
    simp only [List.getD_eq_getElem?_getD, Array.getD_eq_getD_getElem?] at this ⊢
    rw [List.getElem?_append_right hl, Array.getElem?_append_right ht, ← h.1]
    exact this
theorem run_callFunc {g : Nat} {args : Array Value} {fn : Func} (hfn : P.funcs[g]? = some fn) (hname : fn.name ≠ "runtime.NumGoroutine") (hbody : fn.body.isSome = true) : (callFunc g args).run P w = .ok (.enter g args) w := by
  have hnb : fn.body.isNone = false := by cases hb : fn.body <;> simp [hb] at hbody ⊢
  have hnm : (fn.name == "runtime.NumGoroutine") = false := by simpa using hname
  unfold callFunc
  rw [Sem.run_bind, show Sem.run P program w = .ok P w from rfl]
  simp only [Result.andThen, hfn, hnm, hnb, Bool.false_eq_true, if_false]
  rfl

/-- A call. -/
theorem call_does (R : Rel P Γ N S ρ a w) {c : Call} {f : Operand} {g m : Nat} {cap : Nat → DV} {d : DV} {h' : DH} {ext : Bool} (o : Oper) (ho : o.op = .call c) (hc : c.callee = .value f) (hf : opd S.fr f = .fn g m cap)
    (hE : ES P Γ g (c.args.toList.map (opd S.fr) ++ (List.range m).map cap) S.h d h' ext) : Does P (execOp a.eval o) w (Got P Γ N S.h ρ w ext d h') := by
  obtain ⟨⟨fn, hfn, hname, hbody⟩, hE⟩ := hE
  have hr := opd_rep R f
  rw [hf] at hr
  obtain ⟨lb, hv, hs, hcap⟩ := hr
  refine .inr (.inr ⟨g, c.args.map a.eval ++ lb, w, ?_, hE N ρ w _ R.hr (FrRep.append ⟨by simp, fun i hi => ?_⟩ ⟨by simp [hs], fun i hi => ?_⟩)⟩)
  · unfold execOp
    rw [ho]
    show ((resolve a.eval c o.type) >>= fun d => invoke d.target d.args).run P w = _
    unfold resolve
    rw [hc]
    simp only [Deferred.ofValue, hv]
    have he : ((pure { target := .fn (.func g) lb, args := #[] ++ Array.map a.eval c.args } : Sem Deferred) >>= fun d => invoke d.target d.args).run P w = (callFunc g (#[] ++ Array.map a.eval c.args ++ lb)).run P w := rfl
    rw [he, run_callFunc hfn hname hbody]
    simp
  · have hi' : i < c.args.size := by simpa using hi
    have := opd_rep R c.args[i]
    simp [hi', this]
  · have hi' : i < m := by simpa using hi
    obtain ⟨u, g1, g2⟩ := hcap i hi'
    simp [hi', g1, g2]

theorem actD_sound (R : Rel P Γ N S ρ a w) {calls : List (DV × DH × Bool)} {o : Oper} {d : DV} {h' : DH} {vs : List Prop} {ext : Bool} {calls' : List (DV × DH × Bool)} (h : actD P Γ S calls o.op = some (d, h', vs, ext, calls')) (hv : allP vs) :
    Does P (execOp a.eval o) w (Got P Γ N S.h ρ w ext d h') := by
  unfold actD at h
  split at h
  · rename_i t x ho
    split at h
    · rename_i l hl
      cases h
      exact box_got R hl o ho true
    · cases h
  · rename_i t ho
    split at h
    · rename_i i hi
      split at h
      · rename_i z hz
        split at h
        · rename_i hzb
          cases h
          exact alloc_bools_got R hi hz hzb o ho true
        · cases h
          exact alloc_got R hi hz o ho true
      · cases h
    · cases h
  · rename_i t len parts ho
    split at h
    · rename_i k e i z hk
      split at h
      · rename_i hc
        simp only [Bool.and_eq_true, decide_eq_true_eq] at hc
        split at h
        · rename_i ob hb
          cases h
          exact buildSlice_got R hk hc.1 hc.2 hb o ho true
        · cases h
      · cases h
    · cases h
  · rename_i t x y ho
    split at h
    · rename_i n e i hT
      split at h
      · rename_i k1 m k2 m' hx hy
        cases h
        obtain ⟨⟨rfl, v1, v2⟩, _⟩ := hv
        exact makeMaps_got R hT hx hy ⟨v1, v2⟩ o ho true
      · cases h
    split at h
    · rename_i k e i z hk
      split at h
      · rename_i hby
        split at h
        · rename_i k1 n k2 n' hx hy
          cases h
          obtain ⟨⟨rfl, v1, v2⟩, _⟩ := hv
          exact makeSlice_got R hk hx hy ⟨v1, v2⟩ (by simpa using hby) o ho true
        · cases h
      · cases h
    · cases h
  · rename_i t x y ho
    split at h
    · rename_i h1 vc hs
      cases h
      exact storeD_sound R hs hv.1 o ho
    · cases h
  · rename_i c ho
    split at h
    · rename_i hc
      split at h
      · rename_i x y ha
        split at h
        · rename_i t t' ht
          split at h
          · rename_i e
            subst e
            split at h
            · rename_i d1 h1 vc hap
              cases h
              exact appendD_sound R hap hv.1 o ho hc ha ht
            · cases h
          · cases h
        · cases h
      · cases h
    · rename_i f hc
      split at h
      · rename_i g m cap d1 h1 ext1 rest hf
        cases h
        exact call_does R o ho hc hf hv.1
      · cases h
    · cases h
  · split at h
    · rename_i hm
      cases h
      exact mapD_sound R o hm hv
    · cases h

theorem does_wpIn (hF : FOk F P) {o : Oper} (hd : ∀ c, o.op ≠ .defer c) {G : Value → World → Prop} (h : Does P (execOp a.eval o) w G) {K : Act → World → Prop} {Q : Exit → Act → World → Prop} (hK : ∀ v w', G v w' → K (a.put o.dst v) w') : o.wpIn F 0 P a w K Q := by
  refine ⟨fun f _ => hF.fn f, ?_⟩
  rw [Oper.semAt_eq _ _ _ hd]
  rcases h with ⟨v, w', h1, h2⟩ | ⟨w', h1, h2⟩ | ⟨f, args, w', h1, h2⟩
  · rw [h1]; exact hK v w' h2
  · rw [h1]; exact hK undef w' h2
  · rw [h1]
    refine ⟨fun hx => (by rw [hF.dep] at hx; cases hx), (hF.calls h2).mono ?_⟩
    rintro e w'' ⟨v, rfl, hG⟩
    exact hK v w'' hG

theorem got_rel (R : Rel P Γ N S ρ a w) {d d' : DV} {h' : DH} {ext : Bool} {v : Value} {w' : World} (dst : Option Nat) (G : Got P Γ N S.h ρ w ext d h' v w') (hd : ∀ M ρ', RepV M w' d ρ' v → RepV M w' d' ρ' v) :
    ∃ ρ', Rel P Γ N ⟨setD S.fr dst d', h'⟩ ρ' (a.put dst v) w' ∧ StepP S.h ρ w h' ρ' w' := by
  obtain ⟨ρ', g1, g2, g3, g4⟩ := G.ex
  have O : Outl (MS N S.h ρ) w ρ (MS N h' ρ') w' ρ' := ⟨fun b hb hm _ => g3.upd.block b hb fun hx => hm (.inr hx), fun b hb => hb.elim (fun h => .inl (.inl h)) (fun h => (g3.grow b h).imp .inr id), g4⟩
  have R' : Rel P Γ N ⟨S.fr, h'⟩ ρ' a w' := ⟨g1, R.fr.out O⟩
  exact ⟨ρ', setD_rel R' dst (hd _ _ g2), g3, g4⟩

theorem astep_sound (hF : FOk F P) (R : Rel P Γ N S ρ a w) {ops : Array Oper} {orc : Orc} {o : Oper} (hd : ∀ c, o.op ≠ .defer c) {S' : St} {vs : List Prop} {ext : Bool} {orc' : Orc} (h : astep P Γ ops S orc o = some (S', vs, ext, orc')) (hv : allP vs)
    {K : Act → World → Prop} {Q : Exit → Act → World → Prop} (hK : ∀ ρ' a' w', Rel P Γ N S' ρ' a' w' → StepP S.h ρ w S'.h ρ' w' → a'.defers = a.defers → (ext = true → Ext w w') → K a' w') :
    if Region.wanted o (yielded ops a.tmps) then o.wpIn F 0 P a w K Q else (∀ f, o.about P w a.eval = some f → F.fn f) ∧ K (a.put o.dst undef) w := by
  have hdef : ∀ v, (a.put o.dst v).defers = a.defers := fun v => by cases ho : o.dst <;> simp [Act.put]
  unfold astep at h
  split at h
  · cases h
  · rename_i hw
    cases h
    rw [if_neg (by rw [wantedD_sound R hw]; exact Bool.false_ne_true)]
    exact ⟨fun f _ => hF.fn f, hK ρ _ _ (setD_rel R _ undD_rep) (StepP.refl _ _ _) (hdef _) fun _ => Ext.refl w⟩
  · rename_i hw
    rw [if_pos (wantedD_sound R hw)]
    split at h
    · rename_i S1 vs1 hM
      cases h
      exact does_wpIn hF hd (storeM_sound R hM hv) fun v w' ⟨⟨ρ', g1, g2⟩, _⟩ => hK ρ' _ _ g1 g2 (hdef v) fun e => by cases e
    split at h
    · cases h
    · rename_i d h1 vs1 ext1 calls hact
      split at h
      rename_i d' vs' co' hco
      split at h
      · cases h
      · rename_i S2 vs'' fz' hfz
        cases h
        obtain ⟨hv1, hv23⟩ := allP_append.1 hv
        obtain ⟨hv2, hv3⟩ := allP_append.1 hv23
        refine does_wpIn hF hd (actD_sound R hact hv1) fun v w' G => ?_
        obtain ⟨ρ', g1, g2⟩ := got_rel R o.dst G (d' := d') fun M ρ' hr => coD_sound hco hv2 hr
        obtain ⟨g3, g4⟩ := frzs_sound _ hfz hv3 P Γ N ρ' _ _ g1
        exact hK ρ' _ _ g3 (g2.trans ⟨g4, fun _ _ h => h⟩) (hdef v) G.ext

theorem gseq_sound (hF : FOk F P) {ops : Array Oper} (hnd : noDefer ops = true) {Q : Exit → Act → World → Prop} : ∀ (l : List Oper) (_ : ∀ o ∈ l, o ∈ ops) {S : St} {ρ : List Place} {a : Act} {w : World} {orc : Orc} {S' : St} {vs : List Prop} {orc' : Orc},
    Rel P Γ N S ρ a w → gseq P Γ ops l S orc = some (S', vs, orc') → allP vs →
    (∀ ρ' a' w', Rel P Γ N S' ρ' a' w' → StepP S.h ρ w S'.h ρ' w' → a'.defers = a.defers → Q .normal a' w') → wpListIn F 0 P ops Q l a w
  | [], _, S, ρ, a, w, orc, S', vs, orc', R, h, _, hQ => by
    cases h
    exact hQ ρ a w R (StepP.refl _ _ _) rfl
  | o :: rest, hl, S, ρ, a, w, orc, S', vs, orc', R, h, hv, hQ => by
    have hd : ∀ c, o.op ≠ .defer c := by
      obtain ⟨j, hj, e⟩ := Array.getElem_of_mem (hl o (by simp))
      exact noDefer_spec hnd (j := j) (by rw [Array.getElem?_eq_getElem hj, e])
    have hl' : ∀ o ∈ rest, o ∈ ops := fun o ho => hl o (by simp [ho])
    have hdef : ∀ v, (a.put o.dst v).defers = a.defers := fun v => by cases ho : o.dst <;> simp [Act.put]
    simp only [gseq] at h
    unfold wpListIn
    split at h
    · split at h
      · cases h
      · rename_i S1 vs1 ext1 orc1 h1
        split at h
        · cases h
        · rename_i S2 vs2 orc2 h2
          cases h
          obtain ⟨hv1, hv2⟩ := allP_append.1 hv
          exact astep_sound hF R hd h1 hv1 fun ρ' a' w' R' st hdf _ => gseq_sound hF hnd rest hl' R' h2 hv2 fun ρ'' a'' w'' R'' st' hdf' => hQ ρ'' a'' w'' R'' (st.trans st') (hdf'.trans hdf)
    · split at h
      · cases h
      · rename_i S1 vs1 co1 h1
        split at h
        · cases h
        · rename_i S2 vs2 orc2 h2
          cases h
          obtain ⟨hv1, hv2⟩ := allP_append.1 hv
          obtain ⟨e1, hs⟩ := pstep_sound R h1 hv1
          have go : ∀ v, Rel P Γ N S1 ρ (a.put o.dst v) w → wpListIn F 0 P ops Q rest (a.put o.dst v) w := fun v R' =>
            gseq_sound hF hnd rest hl' R' h2 hv2 fun ρ'' a'' w'' R'' st' hdf' => hQ ρ'' a'' w'' R'' (by rw [← e1]; exact st') (hdf'.trans (hdef v))
          rcases hs with ⟨hw, v, g1, g2⟩ | ⟨hw, g2⟩
          · rw [if_pos hw]
            refine ⟨fun f _ => hF.fn f, ?_⟩
            rw [Oper.semAt_eq _ _ _ hd, g1 w (Keep.ofExt (Ext.refl w))]
            exact go v g2
          · rw [if_neg (by rw [hw]; exact Bool.false_ne_true)]
            exact ⟨fun f _ => hF.fn f, go undef g2⟩

theorem pick_mem {ops : Array Oper} : ∀ (l : List Nat), ∀ o ∈ pickOps ops l, o ∈ ops
  | [], o, h => by simp [pickOps] at h
  | i :: l, o, h => by
    simp only [pickOps] at h
    split at h
    · rename_i o' ho
      rcases List.mem_cons.1 h with rfl | h
      · exact Array.mem_of_getElem? ho
      · exact pick_mem l o h
    · exact pick_mem l o h

theorem hseq_sound (hF : FOk F P) {ops : Array Oper} (hnd : noDefer ops = true) {Q : Exit → Act → World → Prop} : ∀ (steps : List (List Nat × Nat)) (last tail : List Nat) {S : St} {ρ : List Place} {a : Act} {w : World} {orc : Orc} {S' : St} {vs : List Prop} {orc' : Orc},
    (tail.all fun t => decide (t < ops.size)) = true → Rel P Γ N S ρ a w → hseq P Γ ops steps last tail S orc = some (S', vs, orc') → allP vs →
    (∀ ρ' a' w', Rel P Γ N S' ρ' a' w' → StepP S.h ρ w S'.h ρ' w' → a'.defers = a.defers → Q .normal a' w') → heldIn F 0 P ops Q steps last tail a w
  | [], last, tail, S, ρ, a, w, orc, S', vs, orc', ht, R, h, hv, hQ => by
    simp only [hseq] at h
    split at h
    · cases h
    · rename_i S1 vs1 co1 h1
      split at h
      · cases h
      · rename_i S2 vs2 orc2 h2
        cases h
        obtain ⟨hv1, hv2⟩ := allP_append.1 hv
        refine heldIn_last ht (pseq_quiet _ R h1 hv1 fun a' e1 R' hdf => ?_)
        exact gseq_sound hF hnd _ (pick_mem tail) R' h2 hv2 fun ρ'' a'' w'' R'' st' hdf' => hQ ρ'' a'' w'' R'' (by rw [← e1]; exact st') (hdf'.trans hdf)
  | (seg, i) :: more, last, tail, S, ρ, a, w, orc, S', vs, orc', ht, R, h, hv, hQ => by
    simp only [hseq] at h
    split at h
    · cases h
    · rename_i S1 vs1 co1 h1
      split at h
      · cases h
      · rename_i o ho
        split at h
        · cases h
        · rename_i S2 vs2 ext orc2 h2
          split at h
          · cases h
          · split at h
            · cases h
            · rename_i S3 vs3 orc3 h3
              cases h
              obtain ⟨hv1, hv'⟩ := allP_append.1 hv
              obtain ⟨hv2, hv3⟩ := allP_append.1 hv'
              show wpQuiet _ _ _ _ _ _
              refine pseq_quiet _ R h1 hv1 fun a' e1 R' hdf => ?_
              unfold wpOpIn
              simp only [ho]
              refine astep_sound hF R' (noDefer_spec hnd ho) h2 hv2 fun ρ'' a'' w'' R'' st' hdf' hext => ?_
              rw [e1] at st'
              exact ⟨hext rfl, hseq_sound hF hnd more last tail ht R'' h3 hv3 fun ρ3 a3 w3 R3 st3 hdf3 => hQ ρ3 a3 w3 R3 (st'.trans st3) (hdf3.trans (hdf'.trans hdf))⟩
end
end Go.Proofs.YtekkngkphejfcaaDoor
