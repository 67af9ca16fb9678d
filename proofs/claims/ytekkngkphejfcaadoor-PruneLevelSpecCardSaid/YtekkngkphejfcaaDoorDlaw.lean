/- From a function's contract on the view to a law's statement: what comes in is read, what lay lies on. -/
import Derived.Test.YtekkngkphejfcaaDoorDread
import Derived.Test.YtekkngkphejfcaaDoorHc
import Derived.Stop.LaidErr
namespace Go.Proofs.YtekkngkphejfcaaDoor
open Go.ChangeShapes Go.WideShapes Go.ChangeAt Go.RowKit

/-- A parameter's values, as the view has them. -/
def RdV (P : Program) (t : TypeId) {α : Type} (d : α → DV) : Prop := ∀ {H : Type} (enc : TypeId × Value → H) (w : World) (base : Nat) (v : Value) (x : DataW H) (ps : List MemPlace), Value.okWide P w .any base t v → DataW.Trod enc P w 0 (fun _ => true) true t v x ps → (∀ n ∈ x.weights P t, n ≤ reachBytes) → ∃ y : α, RepV (fun _ => False) w (d y) [] v
section
variable {P : Program} {t e : TypeId}
theorem RdV.int {k : IntKind} (ht : P.underlying t = some (.int k)) : RdV P t (fun n : Int => .int k n) := fun enc w base v x ps hok _ _ => by
  obtain ⟨n, rfl⟩ := okWide_int ht hok
  exact ⟨n, rfl⟩
theorem RdV.bool (ht : P.underlying t = some .bool) : RdV P t (fun b : Bool => .bool b) := fun enc w base v x ps hok h _ => by
  obtain ⟨b, rfl, _⟩ := open_bool ht hok h
  exact ⟨b, rfl⟩
theorem RdV.one {α : Type} {c : α → List DV} (ht : P.underlying t = some (.slice e)) (h : Rd P t 1 c) : RdV P t (fun x => (c x).getD 0 .any) := fun enc w base v x ps hok ⟨fuel, hx⟩ hw => by
  obtain ⟨a, len, cap, rfl⟩ := okWide_slice ht hok
  obtain ⟨y, h1, h2⟩ := h.2.2 enc w fuel _ _ hx hw
  exact ⟨y, by simpa [Value.cells] using h2 0 (by rw [h.1]; exact Nat.zero_lt_one)⟩
theorem RdV.agg {α : Type} {m : Nat} {c : α → List DV} {fs : Array Field} (ht : P.underlying t = some (.struct fs)) (h : Rd P t m c) : RdV P t (fun x => .agg m (L1 (c x))) := fun enc w base v x ps hok ⟨fuel, hx⟩ hw => by
  obtain ⟨cs, rfl, hcs⟩ := okWide_struct ht hok
  obtain ⟨y, h1, h2⟩ := h.2.2 enc w fuel _ _ hx hw
  have hm : (c y).length = m := h.1 y
  have hsz : cs.size = m := by
    have : cs.toList.length = (c y).length := h1
    simpa [hm] using this
  refine ⟨y, cs, rfl, hsz, fun j hj => ?_⟩
  have := h2 j (by rw [hm]; exact hj)
  refine ⟨cs[j]'(by omega), by simp [hsz, hj], ?_⟩
  have e : (Value.agg cs).cells.toList.getD j undef = cs[j]'(by omega) := by
    show cs.toList.getD j undef = _
    simp [List.getD_eq_getElem?_getD, hsz, hj]
  rw [e] at this
  exact this
/-- All parameters. -/
def ArgsV (P : Program) (ts : List TypeId) {α : Type} (ds : α → List DV) : Prop := ∀ {H : Type} (enc : TypeId × Value → H) (w : World) (base : Nat) (vs : List Value) (xs : List (DataW H)) (ps : List MemPlace), (∀ (j : Nat) t v, ts[j]? = some t → vs[j]? = some v → Value.okWide P w .any base t v) → DataW.TrodAll enc P w 0 (fun _ => true) true ts vs xs ps → (∀ n ∈ DataW.weightsEach P ts xs, n ≤ reachBytes) → ∃ y : α, (ds y).length = vs.length ∧ ∀ j, j < vs.length → RepV (fun _ => False) w ((ds y).getD j .any) [] (vs.getD j undef)
theorem ArgsV.nil : ArgsV P [] (fun _ : Unit => []) := fun enc w base vs xs ps _ h _ => by
  obtain ⟨rfl, _, _⟩ := trodAll_nil h
  exact ⟨(), rfl, fun j hj => absurd hj (Nat.not_lt_zero j)⟩
theorem ArgsV.cons {α β : Type} {d : α → DV} {ds : β → List DV} {ts : List TypeId} (h : RdV P t d) (hs : ArgsV P ts ds) : ArgsV P (t :: ts) (fun x : α × β => d x.1 :: ds x.2) := fun enc w base vs xs ps hok h0 hw => by
  obtain ⟨v, vs', x, xs', p, q, rfl, rfl, rfl, h1, h2⟩ := trodAll_cons h0
  obtain ⟨y, hy⟩ := h enc w base v x p (hok 0 t v rfl rfl) h1 fun n hn => hw n (by simp only [DataW.weightsEach]; exact List.mem_append_left _ hn)
  obtain ⟨z, hz1, hz2⟩ := hs enc w base vs' xs' q (fun j t' v' a b => hok (j + 1) t' v' (by simpa using a) (by simpa using b)) h2 fun n hn => hw n (by simp only [DataW.weightsEach]; exact List.mem_append_right _ hn)
  refine ⟨(y, z), by simp [hz1], fun j hj => ?_⟩
  cases j with
  | zero => exact hy
  | succ j => exact hz2 j (by simpa using hj)
theorem trodAll_ext {H : Type} {enc : TypeId × Value → H} (hl : laidOutB P = true) {W W' : World} (hE : Ext W W') : ∀ {ts : List TypeId} {vs : List Value} {ds : List (DataW H)} {ps : List MemPlace}, (∀ t ∈ ts, P.readableRec t = true ∧ t < P.types.size) → DataW.TrodAll enc P W 0 (fun _ => true) true ts vs ds ps → (∀ x ∈ ps, x.block < W.heap.size) → DataW.TrodAll enc P W' 0 (fun b => decide (b < W.heap.size)) true ts vs ds ps
  | [], _, _, _, _, h, _ => by
    obtain ⟨rfl, rfl, rfl⟩ := trodAll_nil h
    rfl
  | t :: ts, _, _, _, hr, h, hlt => by
    obtain ⟨v, vs', x, xs', p, q, rfl, rfl, rfl, h1, h2⟩ := trodAll_cons h
    exact ⟨p, q, Below.trod hl (hr t (by simp)).1 (hr t (by simp)).2 h1 hE fun x hx => hlt x (List.mem_append_left _ hx), trodAll_ext hl hE (fun t ht => hr t (by simp [ht])) h2 fun x hx => hlt x (List.mem_append_right _ hx), rfl⟩
/-- What a law asks behind the call: true, and all that came in as it was. -/
theorem post_law {H : Type} {enc : TypeId × Value → H} {f : Func} {s : ChangeSpec} {W W' : World} {args : Array Value} {ds gs : List (DataW H)} {before : List MemPlace} {tb : TypeId} (hl : laidOutB P = true) (hr : ∀ t ∈ f.params.toList, P.readableRec t = true ∧ t < P.types.size) (hE : Ext W W')
    (hW : DataW.Whole enc P f.params.toList s.vars false W args.toList ds gs before) (hv : s.vars = []) (hs : s.fn H (ds ++ gs) = { results := [.lit (.bool true)], args := ds }) (hrt : f.resultTypes = #[tb]) (htb : P.underlying tb = some .bool) :
    s.post enc P f false true false false W args (.bool true) W' := by
  have hW' := hW
  have hlt := hW.lt
  obtain ⟨p, q, hA, hV, rfl, hfz, hnd⟩ := hW
  rw [hv] at hV
  obtain ⟨rfl, rfl⟩ := trodVars_none hV
  have hargs := trodAll_ext hl hE hr hA fun x hx => hlt x (List.mem_append_left _ hx)
  refine ⟨ds, [], p ++ [], [], p, [], hW', ?_, ?_, ?_, World.keptBut_mono (fun x hx => ⟨hx, .inr (.inl (by simpa using hx))⟩) (Below.frame hE (· ∈ p ++ [])), fun h => by cases h⟩
  · rw [hs, hrt]
    exact trodAll_mk1 (shut_bool htb true)
  · rw [hs]; exact hargs
  · rw [hv, hs]; rfl
/-- A law's call. -/
theorem law_calls {H : Type} {enc : TypeId × Value → H} {Γ : Glo} {fid : Nat} {f : Func} {s : ChangeSpec} {W : World} {base : Nat} {args : Array Value} {ds gs : List (DataW H)} {before : List MemPlace} {tb : TypeId} {α : Type} {dv : α → List DV} (hl : laidOutB P = true) (hr : ∀ t ∈ f.params.toList, P.readableRec t = true ∧ t < P.types.size)
    (hread : ArgsV P f.params.toList dv) (hES : ∀ (w : World) (y : α), (∀ j, RepV (fun _ => False) w ((dv y).getD j .any) [] (args.getD j undef)) → ES P Γ fid (dv y) [] (.bool true) [] true)
    (hval : ∀ (j : Nat) t v, f.params[j]? = some t → args[j]? = some v → Value.okWide P W .any base t v) (hW : DataW.Whole enc P f.params.toList s.vars false W args.toList ds gs before) (hv : s.vars = []) (hs : s.fn H (ds ++ gs) = { results := [.lit (.bool true)], args := ds }) (hrt : f.resultTypes = #[tb]) (htb : P.underlying tb = some .bool)
    (hsz : (DataW.weightsEach P f.params.toList ds).all (· ≤ reachBytes) = true) (hg : Γ.gi W) : Calls P fid args W fun e W' => ∃ v, e = .returned v ∧ s.post enc P f false true false false W args v W' := by
  have hW' := hW
  obtain ⟨p, q, hA, hV, rfl, hfz, hnd⟩ := hW
  obtain ⟨y, h1, h2⟩ := hread enc W base args.toList ds p (fun j t v a b => hval j t v (by simpa using a) (by simpa using b)) hA fun n hn => by
    have := List.all_eq_true.1 hsz n hn
    simpa using this
  have hlen : (dv y).length = args.size := by simpa using h1
  have hrep : ∀ j, RepV (fun _ => False) W ((dv y).getD j .any) [] (args.getD j undef) := fun j => by
    rcases Nat.lt_or_ge j args.size with hj | hj
    · have := h2 j (by simpa using hj)
      simpa [List.getD_eq_getElem?_getD, Array.getD_eq_getD_getElem?, hj] using this
    · have : (dv y).getD j .any = .any := by rw [List.getD_eq_getElem?_getD, List.getElem?_eq_none (by omega)]; rfl
      rw [this]; trivial
  refine ((hES W y hrep).2 (fun _ => False) [] W args (hrel_nil (fun b hb => hb.elim) hg) ⟨hlen, fun i hi => ?_⟩).mono ?_
  · exact RepV.out _ (out_iff (fun b hb => MS_nil.1 hb) []) (hrep i)
  · rintro e W' ⟨v, rfl, G⟩
    obtain ⟨ρ', _, hvv, _⟩ := G.ex
    have hvv : v = .bool true := hvv
    subst hvv
    exact ⟨_, rfl, post_law hl hr (G.ext rfl) hW' hv hs hrt htb⟩
end
end Go.Proofs.YtekkngkphejfcaaDoor
