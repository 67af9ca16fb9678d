/- Iterators read off the code: what a function value yields. -/
import Derived.Test.YtekkngkphejfcaaDoorDabb
namespace Go.Proofs.YtekkngkphejfcaaDoor
open Go.RowKit

/-- An iterator under way: whom it yields to, what it may read, what it yields, what its caller keeps. -/
structure ItC (P : Program) (Γ : Glo) where
  l : Nat
  Rd : Nat → Prop
  encs : List (Array Value)
  J : Nat → (Nat → Prop) → World → Prop
  Jx : (Nat → Prop) → World → Prop
  hJ : ∀ i, Stable (J i)
  hJx : Stable Jx
  lo : ∀ b, b < Γ.ng → Rd b
  hy : ∀ i args G W1, encs[i]? = some args → J i G W1 → YieldAt Fence.wide 0 P l args W1 fun e W' =>
    Upd (fun k => ¬ (G k ∨ Rd k)) W1 W' ∧ ((e = .returned (.bool true) ∧ J (i + 1) G W') ∨ (e = .returned (.bool false) ∧ Jx G W'))
def iterY (P : Program) (Γ : Glo) (L : Nat) (Rd : Nat → Prop) (J : (Nat → Prop) → World → Prop) (hJ : Stable J) : Yard P Γ L where
  I := fun N h ρ w => ∃ G, J G w ∧ (∀ b, G b → b < w.heap.size) ∧ (∀ b, MO h ρ b → G b) ∧ (∀ b, N b ↔ (b < w.heap.size ∧ Γ.ng ≤ b ∧ ¬ G b ∧ ¬ Rd b))
  st := by
    rintro N h ρ w h' ρ' w' ⟨G, h1, h2, h3, h4⟩ H H' st _
    have hs := st.upd.size
    refine ⟨fun b => G b ∨ (w.heap.size ≤ b ∧ b < w'.heap.size), hJ G _ w w' h1 (st.upd.mono fun b _ hb => h3 b hb) (fun k hk => hk.imp id fun h => h.1) (fun k hk => hk.elim (fun h => Nat.lt_of_lt_of_le (h2 k h) hs) fun h => h.2), fun b hb => hb.elim (fun h => Nat.lt_of_lt_of_le (h2 b h) hs) fun h => h.2, fun b hb => ?_, fun b => ?_⟩
    · rcases st.grow b hb with h | h
      · exact .inl (h3 b h)
      · obtain ⟨k, o, p, q1, q2, q3⟩ := hb
        obtain ⟨_, _, c, t, z, e⟩ := H'.cel k o p b q1 q2 q3
        exact .inr ⟨h, (Array.getElem?_eq_some_iff.1 e).1⟩
    · rw [h4]
      constructor
      · rintro ⟨a1, a2, a3, a4⟩
        exact ⟨Nat.lt_of_lt_of_le a1 hs, a2, fun hx => hx.elim a3 fun hx => by omega, a4⟩
      · rintro ⟨a1, a2, a3, a4⟩
        have : ¬ (w.heap.size ≤ b) := fun hx => a3 (.inr ⟨hx, a1⟩)
        exact ⟨by omega, a2, fun hx => a3 (.inl hx), a4⟩
section
variable {P : Program} {Γ : Glo}
def ItC.Y (C : ItC P Γ) (L i : Nat) : Yard P Γ L := iterY P Γ L C.Rd (C.J i) (C.hJ i)
def ItC.X (C : ItC P Γ) (L : Nat) : Yard P Γ L := iterY P Γ L C.Rd C.Jx C.hJx
def ItC.Q (C : ItC P Γ) (L : Nat) : QY P Γ L := fun e _ Y => (e = .normal ∨ e = .ret) ∧ (Y = C.Y L C.encs.length ∨ Y = C.X L)

def dvVal : DV → Option Value
  | .int k n => some (.int k n)
  | .bool b => some (.bool b)
  | _ => none
theorem dvVal_rep {M : Nat → Prop} {w : World} {ρ : List Place} {d : DV} {v u : Value} (h : dvVal d = some v) (hr : RepV M w d ρ u) : u = v := by
  cases d <;> simp only [dvVal, Option.some.injEq] at h
  all_goals first | (subst h; exact hr) | (cases h)
def mapVals : List DV → Option (List Value)
  | [] => some []
  | d :: ds => match dvVal d, mapVals ds with
    | some v, some vs => some (v :: vs)
    | _, _ => none
theorem mapVals_rep {M : Nat → Prop} {w : World} {ρ : List Place} {f : Operand → Value} {g : Operand → DV} (hr : ∀ x, RepV M w (g x) ρ (f x)) : ∀ {l : List Operand} {vs : List Value}, mapVals (l.map g) = some vs → l.map f = vs
  | [], vs, h => by cases h; rfl
  | x :: l, vs, h => by
    simp only [List.map_cons, mapVals] at h
    split at h
    · rename_i v vs' h1 h2
      cases h
      rw [List.map_cons, dvVal_rep h1 (hr x), mapVals_rep hr h2]
    · cases h

/-- A region with a call of yield: what is yielded, to whom, and what follows upon true and upon false. -/
def yrun (P : Program) (Γ : Glo) (ops : Array Oper) (p : Nat) (S : St) (orc : Orc) : Option (List Value × Nat × St × St × List Prop) := match gseq P Γ ops (ops.toList.take p) S orc with
  | none => none
  | some (S1, vs, orc1) => match ops[p]? with
    | none => none
    | some o => match wantedD ops S1 o with
      | some true => match o.op with
        | .call c => match c.callee with
          | .value f => match opd S1.fr f with
            | .yl l => match mapVals (c.args.toList.map (opd S1.fr)) with
              | none => none
              | some xs => match gseq P Γ ops (ops.toList.drop (p + 1)) ⟨setD S1.fr o.dst (.bool true), S1.h⟩ orc1 with
                | none => none
                | some (ST, vT, orc2) => match gseq P Γ ops (ops.toList.drop (p + 1)) ⟨setD S1.fr o.dst (.bool false), S1.h⟩ orc2 with
                  | none => none
                  | some (SF, vF, _) => some (xs, l, ST, SF, vs ++ (vT ++ vF))
            | _ => none
          | _ => none
        | _ => none
      | _ => none
end
section
variable {P : Program} {Γ : Glo} {N : Nat → Prop} {S : St} {ρ : List Place} {a : Act} {w : World} {F : Fence}
theorem gseq_soundK (hF : FOk F P) {ops : Array Oper} (hnd : noDefer ops = true) {Q : Exit → Act → World → Prop} {more : List Oper} : ∀ (l : List Oper) (_ : ∀ o ∈ l, o ∈ ops) {S : St} {ρ : List Place} {a : Act} {w : World} {orc : Orc} {S' : St} {vs : List Prop} {orc' : Orc},
    Rel P Γ N S ρ a w → gseq P Γ ops l S orc = some (S', vs, orc') → allP vs →
    (∀ ρ' a' w', Rel P Γ N S' ρ' a' w' → StepP S.h ρ w S'.h ρ' w' → a'.defers = a.defers → wpListIn F 0 P ops Q more a' w') → wpListIn F 0 P ops Q (l ++ more) a w
  | [], _, S, ρ, a, w, orc, S', vs, orc', R, h, _, hQ => by
    cases h
    exact hQ ρ a w R (StepP.refl _ _ _) rfl
  | o :: rest, hl, S, ρ, a, w, orc, S', vs, orc', R, h, hv, hQ => by
    have hd : ∀ c, o.op ≠ .defer c := by
      obtain ⟨j, hj, e⟩ := Array.getElem_of_mem (hl o (by simp))
      exact noDefer_spec hnd (j := j) (by rw [Array.getElem?_eq_getElem hj, e])
    have hl' : ∀ o ∈ rest, o ∈ ops := fun o ho => hl o (by simp [ho])
    have hdef : ∀ v, (a.put o.dst v).defers = a.defers := fun v => by cases ho : o.dst <;> simp [Act.put]
    simp only [gseq] at h
    rw [List.cons_append]
    unfold wpListIn
    split at h
    · split at h
      · cases h
      · rename_i S1 vs1 ext1 orc1 h1
        split at h
        · cases h
        · rename_i S2 vs2 orc2 h2
          cases h
          obtain ⟨hv1, hv2⟩ := allP_append.1 hv
          exact astep_sound hF R hd h1 hv1 fun ρ' a' w' R' st hdf _ => gseq_soundK hF hnd rest hl' R' h2 hv2 fun ρ'' a'' w'' R'' st' hdf' => hQ ρ'' a'' w'' R'' (st.trans st') (hdf'.trans hdf)
    · split at h
      · cases h
      · rename_i S1 vs1 co1 h1
        split at h
        · cases h
        · rename_i S2 vs2 orc2 h2
          cases h
          obtain ⟨hv1, hv2⟩ := allP_append.1 hv
          obtain ⟨e1, hs⟩ := pstep_sound R h1 hv1
          have go : ∀ v, Rel P Γ N S1 ρ (a.put o.dst v) w → wpListIn F 0 P ops Q (rest ++ more) (a.put o.dst v) w := fun v R' =>
            gseq_soundK hF hnd rest hl' R' h2 hv2 fun ρ'' a'' w'' R'' st' hdf' => hQ ρ'' a'' w'' R'' (by rw [← e1]; exact st') (hdf'.trans (hdef v))
          rcases hs with ⟨hw, v, g1, g2⟩ | ⟨hw, g2⟩
          · rw [if_pos hw]
            refine ⟨fun f _ => hF.fn f, ?_⟩
            rw [Oper.semAt_eq _ _ _ hd, g1 w (Keep.ofExt (Ext.refl w))]
            exact go v g2
          · rw [if_neg (by rw [hw]; exact Bool.false_ne_true)]
            exact ⟨fun f _ => hF.fn f, go undef g2⟩


theorem run_callYield {l : Nat} {ρ' : Operand → Value} {o : Oper} {c : Call} {f : Operand} {vs : List Value} (ho : o.op = .call c) (hc : c.callee = .value f) (hf : ρ' f = .func (.yield l) #[] #[]) (hv : c.args.toList.map ρ' = vs) : (execOp ρ' o).run P w = (Instr.yield l vs.toArray).run P w := by
  unfold execOp
  rw [ho]
  show ((resolve ρ' c o.type) >>= fun d => invoke d.target d.args).run P w = _
  unfold resolve
  rw [hc]
  simp only [Deferred.ofValue, hf]
  have e : #[] ++ Array.map ρ' c.args = vs.toArray := by
    rw [← hv]
    apply Array.ext'
    simp
  have he : ((pure { target := .fn (.yield l) #[], args := #[] ++ Array.map ρ' c.args } : Sem Deferred) >>= fun d => invoke d.target d.args).run P w = (Instr.yield l (#[] ++ Array.map ρ' c.args)).run P w := rfl
  rw [he, e]
/-- A region in which yield is called. -/
theorem Tr.yield {L : Nat} {C : ItC P Γ} {i : Nat} {Q : QY P Γ L} (hF : FOk Fence.wide P) {id : Nat} {ops : Array Oper} {p : Nat} {orc : Orc} {x : Array Value} {ST SF : St} {vs : List Prop} (hnd : noDefer ops = true)
    (h : yrun P Γ ops p S orc = some (x.toList, C.l, ST, SF, vs)) (hv : allP vs) (hx : C.encs[i]? = some x) (hT : Q .normal ST (C.Y L (i + 1))) (hE : Q .normal SF (C.X L)) : Tr P Γ Fence.wide none L (C.Y L i) (.region id ops false) S Q := fun N ρ a w R y m b => by
  unfold yrun at h
  split at h
  · cases h
  rename_i S1 vs1 orc1 h1
  split at h
  · cases h
  rename_i o ho
  split at h
  · rename_i hw
    split at h
    · rename_i c hop
      split at h
      · rename_i f hc
        split at h
        · rename_i l hl
          split at h
          · cases h
          rename_i xs hxs
          split at h
          · cases h
          rename_i ST' vT orc2 h2
          split at h
          · cases h
          rename_i SF' vF orc3 h3
          cases h
          obtain ⟨hv1, hv'⟩ := allP_append.1 hv
          obtain ⟨hvT, hvF⟩ := allP_append.1 hv'
          have hp : p < ops.toList.length := by simpa using (Array.getElem?_eq_some_iff.1 ho).1
          have hsplit : ops.toList = ops.toList.take p ++ o :: ops.toList.drop (p + 1) := by
            have e : ops.toList[p] = o := by
              have := (Array.getElem?_eq_some_iff.1 ho).2
              simpa using this
            rw [← e, ← List.drop_eq_getElem_cons hp, List.take_append_drop]
          have hmem : ∀ o' ∈ ops.toList, o' ∈ ops := fun o' h => by simpa using h
          have hd : ∀ c, o.op ≠ .defer c := noDefer_spec hnd ho
          refine wpIn_region_list ?_
          rw [hsplit]
          refine gseq_soundK hF hnd _ (fun o' ho' => hmem o' (List.mem_of_mem_take ho')) R h1 hv1 fun ρ1 a1 w1 R1 st1 hdf1 => ?_
          obtain ⟨G, y1, y2, y3, y4⟩ := (C.Y L i).st y R.hr R1.hr st1.st (fun k p _ hp => st1.pl k p hp)
          obtain ⟨fn, tmps, asg, body, hy, hR⟩ := C.hy i x G w1 hx y1
          unfold wpListIn
          rw [if_pos (wantedD_sound R1 hw)]
          have hfv : a1.eval f = .func (.yield C.l) #[] #[] := by
            have hr := opd_rep R1 f
            rw [hl] at hr
            exact hr
          have hav : c.args.toList.map a1.eval = x.toList := mapVals_rep (f := a1.eval) (g := opd S1.fr) (fun x => opd_rep R1 x) hxs
          refine ⟨fun f _ => hF.fn f, ?_⟩
          rw [Oper.semAt_eq _ _ _ hd, run_callYield hop hc hfv hav, hy]
          refine ⟨fun hx => (by cases hx), hR.mono ?_⟩
          have hm1 : a1.defers = [] := hdf1.trans m
          rintro e W' ⟨hu, hj⟩
          have hs := hu.size
          have hu' : Upd N w1 W' := hu.mono fun bb hlt hn => (y4 bb).2 ⟨hlt, Nat.le_of_not_lt fun hx => hn (.inr (C.lo bb hx)), fun hx => hn (.inl hx), fun hx => hn (.inr hx)⟩
          have hG' : ∀ bb, N bb → N bb ∧ Γ.ng ≤ bb := fun bb hb => ⟨hb, ((y4 bb).1 hb).2.1⟩
          have hN' : ∀ bb, (bb < W'.heap.size ∧ Γ.ng ≤ bb ∧ ¬ G bb ∧ ¬ C.Rd bb) → N bb ∨ w1.heap.size ≤ bb := fun bb ⟨q1, q2, q3, q4⟩ => by
            rcases Nat.lt_or_ge bb w1.heap.size with h | h
            · exact .inl ((y4 bb).2 ⟨h, q2, q3, q4⟩)
            · exact .inr h
          have H' : HRel P Γ (fun bb => bb < W'.heap.size ∧ Γ.ng ≤ bb ∧ ¬ G bb ∧ ¬ C.Rd bb) S1.h ρ1 W' := R1.hr.foreign hu' hG' hN' fun bb ⟨q1, q2, _⟩ => ⟨q1, q2⟩
          have base : Rel P Γ (fun bb => bb < W'.heap.size ∧ Γ.ng ≤ bb ∧ ¬ G bb ∧ ¬ C.Rd bb) S1 ρ1 a1 W' := ⟨H', R1.fr.out (Outl.foreign (Γ := Γ) hu' hG' hN')⟩
          have hdef : ∀ v, (a1.put o.dst v).defers = a1.defers := fun v => by cases ho : o.dst <;> simp [Act.put]
          rcases hj with ⟨rfl, hj⟩ | ⟨rfl, hj⟩
          · have R' := setD_rel base o.dst (d := .bool true) (v := .bool true) rfl
            refine gseq_sound hF hnd _ (fun o' ho' => hmem o' (List.mem_of_mem_drop ho')) R' h2 hvT fun ρ2 a2 w2 R2 st2 hdf2 => ?_
            refine ⟨ST, ρ2, _, C.Y L (i + 1), hT, R2, (C.Y L (i + 1)).st ⟨G, hj, fun bb hb => Nat.lt_of_lt_of_le (y2 bb hb) hs, y3, fun bb => Iff.rfl⟩ R'.hr R2.hr st2.st (fun k p _ hp => st2.pl k p hp), ?_, Bd.none⟩
            show a2.defers = []
            rw [hdf2, hdef]; exact hm1
          · have R' := setD_rel base o.dst (d := .bool false) (v := .bool false) rfl
            refine gseq_sound hF hnd _ (fun o' ho' => hmem o' (List.mem_of_mem_drop ho')) R' h3 hvF fun ρ2 a2 w2 R2 st2 hdf2 => ?_
            refine ⟨SF, ρ2, _, C.X L, hE, R2, (C.X L).st ⟨G, hj, fun bb hb => Nat.lt_of_lt_of_le (y2 bb hb) hs, y3, fun bb => Iff.rfl⟩ R'.hr R2.hr st2.st (fun k p _ hp => st2.pl k p hp), ?_, Bd.none⟩
            show a2.defers = []
            rw [hdf2, hdef]; exact hm1
        · cases h
      · cases h
    · cases h
  · cases h
end
theorem enterOk {P : Program} {f : Nat} {fn : Func} (hf : P.funcs[f]? = some fn) (hb : fn.body.isSome = true) (hn : (fn.name == "runtime.NumGoroutine") = false) (args : Array Value) (W : World) : (callFunc f args).run P W = .ok (.enter f args) W := by
  have hn' : ¬ fn.name = "runtime.NumGoroutine" := by simpa using hn
  have hb' : ¬ fn.body = none := by intro e; rw [e] at hb; cases hb
  simp [callFunc, go_sem, hf, hn', hb']
/-- A function value over boxes of its own is an iterator, if its code yields so. -/
theorem ES.iterN {P : Program} {Γ : Glo} {f gf m : Nat} {fn : Func} {ds : List DV} {c : Nat → DV} {h0 : DH} {encs : List (Array Value)} (hES : ES P Γ f ds [] (.fn gf m c) h0 true) (hds : ds.all nrefB = true)
    (hf : P.funcs[gf]? = some fn) (hb : fn.body.isSome = true) (hn : (fn.name == "runtime.NumGoroutine") = false) (hres : fn.results = #[])
    (body : ∀ C : ItC P Γ, C.encs = encs → TrG P Γ Fence.wide none h0.length (C.Y h0.length 0) (C.Q h0.length) [.code (bodyC fn)] ⟨.yl C.l :: (List.range m).map c ++ List.replicate (fn.ntmps - (m + 1)) .any, h0⟩) (h : DH) : ES P Γ f ds h (.it h.length) (h ++ [some (.iter encs)]) true := by
  refine ⟨hES.1, fun N ρ w args HR hargs => ?_⟩
  refine (hES.2 (MS N h ρ) [] w args (hrel_nil (fun b hb => HR.lt2 hb) HR.gi) ⟨hargs.1, fun i hi => ?_⟩).mono ?_
  · have hx := nrefB_ok (List.all_eq_true.1 hds (ds.getD i .any) (by simp [hi]))
    exact RepV.out _ (out_iff (fun b hb => MS_nil.1 hb) []) (hx _ _ _ _ (hargs.2 i hi))
  · rintro e w' ⟨v, rfl, ⟨⟨ρ', g1, g2, g3, g4⟩, g5⟩⟩
    have hE := g5 rfl
    obtain ⟨lb, hv, hl, hlb⟩ := g2
    have hnew : ∀ b, MO h0 ρ' b → w.heap.size ≤ b := fun b hb => (g3.grow b hb).resolve_left fun ⟨k, o', p', q1, _⟩ => by simp at q1
    have hcell : ∀ b, MO h0 ρ' b → Γ.ng ≤ b ∧ ¬ MS N h ρ b ∧ Lies w' b := fun b ⟨k, o, q, q1, q2, q3⟩ => g1.cel k o q b q1 q2 q3
    have hng : Γ.ng ≤ w.heap.size := Γ.lo _ HR.gi
    have hsz := hE.size
    have hlt : ∀ b, MO h0 ρ' b → b < w'.heap.size := fun b hb => by
      obtain ⟨_, _, c, t, z, h⟩ := hcell b hb
      exact (Array.getElem?_eq_some_iff.1 h).1
    have lo : ∀ b, b < Γ.ng → b < w'.heap.size ∧ ¬ MS (MS N h ρ) h0 ρ' b := fun b hb => ⟨Nat.lt_of_lt_of_le hb (Nat.le_trans hng hsz), fun hx => by
      rcases hx with hx | hx
      · have := (HR.lt2 hx).2; omega
      · have := (hcell b hx).1; omega⟩
    let p : Place := ⟨0, 0, 0, v, fun b => MO h0 ρ' b⟩
    have hp : ∀ b, p.foot b → w.heap.size ≤ b ∧ Lies w' b := fun b hb => ⟨hnew b hb, (hcell b hb).2.2⟩
    refine ⟨v, rfl, ⟨⟨ρ ++ [p], HR.snoc hE hp ?_, ⟨p, by rw [← HR.len]; simp, rfl⟩, Step.snoc HR hE fun b hb => (hp b hb).1, fun _ _ h => get_snoc_left h⟩, g5⟩⟩
    refine ⟨gf, lb, fun b => b < w'.heap.size ∧ ¬ MS (MS N h ρ) h0 ρ' b, ⟨hv, fun args W => enterOk hf hb hn args W⟩, ?_, fun b hb => ⟨fun hm => ?_, hb.1⟩, hlt⟩
    · intro l J Jx G W hJ hJx hU hG hGlt hY h0J
      let C : ItC P Γ := ⟨l, fun b => b < w'.heap.size ∧ ¬ MS (MS N h ρ) h0 ρ' b, encs, J, Jx, hJ, hJx, lo, hY⟩
      have T := body C rfl
      cases hc : fn.body with
      | none => rw [hc] at hb; cases hb
      | some code =>
      have eb : bodyC fn = code := by unfold bodyC; rw [hc]; rfl
      rw [eb] at T
      refine callsIn_of_wp hf hc trivial ?_ rfl
      have hN1 : ∀ b, (b < W.heap.size ∧ Γ.ng ≤ b ∧ ¬ G b ∧ ¬ (b < w'.heap.size ∧ ¬ MS (MS N h ρ) h0 ρ' b)) → MS N h ρ b ∨ w'.heap.size ≤ b := fun b ⟨_, _, q3, q4⟩ => by
        rcases Nat.lt_or_ge b w'.heap.size with hx | hx
        · by_cases hm : MS (MS N h ρ) h0 ρ' b
          · rcases hm with hm | hm
            · exact .inl hm
            · exact absurd (hG b hm) q3
          · exact absurd ⟨hx, hm⟩ q4
        · exact .inr hx
      have hu : Upd (fun b => MS N h ρ b) w' W := hU.mono fun b hlt hx => by
        by_cases hm : MS (MS N h ρ) h0 ρ' b
        · rcases hm with hm | hm
          · exact hm
          · exact absurd (.inl hm) hx
        · exact absurd (.inr ⟨hlt, hm⟩) hx
      have hGm : ∀ b, MS N h ρ b → MS N h ρ b ∧ Γ.ng ≤ b := fun b hb => ⟨hb, (HR.lt2 hb).2⟩
      have HW : HRel P Γ (fun b => b < W.heap.size ∧ Γ.ng ≤ b ∧ ¬ G b ∧ ¬ (b < w'.heap.size ∧ ¬ MS (MS N h ρ) h0 ρ' b)) h0 ρ' W := g1.foreign hu hGm hN1 fun b hb => ⟨hb.1, hb.2.1⟩
      have frc : FrRep (MS (MS N h ρ) h0 ρ') w' ρ' ((List.range m).map c) lb := ⟨by simp [hl], fun j hj => by
        have hj' : j < m := by simpa using hj
        obtain ⟨u, q1, q2⟩ := hlb j hj'
        have e1 : ((List.range m).map c).getD j .any = c j := by simp [hj']
        have e2 : lb.getD j undef = u := by rw [Array.getD_eq_getD_getElem?, q1]; rfl
        rw [e1, e2]; exact q2⟩
      have frW := frc.out (Outl.foreign (Γ := Γ) hu hGm hN1)
      have fr : FrRep (MS (fun b => b < W.heap.size ∧ Γ.ng ≤ b ∧ ¬ G b ∧ ¬ (b < w'.heap.size ∧ ¬ MS (MS N h ρ) h0 ρ' b)) h0 ρ') W ρ' (.yl l :: (List.range m).map c ++ List.replicate (fn.ntmps - (m + 1)) .any) (#[.func (.yield l) #[] #[]] ++ lb ++ Array.replicate (fn.ntmps - (#[Value.func (.yield l) #[] #[]] ++ lb).size) undef) := by
        have e3 : fn.ntmps - (#[Value.func (.yield l) #[] #[]] ++ lb).size = fn.ntmps - (m + 1) := by simp [hl, Nat.add_comm]
        rw [e3]
        refine FrRep.append ?_ (FrRep.anys _ _ _ _)
        have : DV.yl l :: (List.range m).map c = [DV.yl l] ++ (List.range m).map c := rfl
        rw [this]
        exact FrRep.append ⟨rfl, fun j hj => by
          have : j = 0 := by simpa using hj
          subst this; rfl⟩ frW
      refine wpIn_mono ((show Tr P Γ Fence.wide none h0.length (C.Y h0.length 0) code _ (TrE P Γ Fence.wide none h0.length (C.Q h0.length) []) from T) _ ρ' _ W ⟨HW, fr⟩ ⟨G, h0J, hGlt, fun b hb => hG b hb, fun b => Iff.rfl⟩ rfl Bd.none) ?_
      rintro e a' W' ⟨S', ρ2, N', Y', q1, q2, q3, q4, q5⟩
      have fin : (Y' = C.Y h0.length C.encs.length ∨ Y' = C.X h0.length) → (∃ G', J encs.length G' W') ∨ ∃ G', Jx G' W' := by
        rintro (rfl | rfl)
        · obtain ⟨G', k1, _⟩ := q3; exact .inl ⟨G', k1⟩
        · obtain ⟨G', k1, _⟩ := q3; exact .inr ⟨G', k1⟩
      cases e with
      | normal => exact bodyPost_end (results_none hres _ _ _) q4 ⟨⟨_, rfl⟩, fin q1.2⟩
      | ret => exact bodyPost_ret (results_none hres _ _ _) q4 ⟨⟨_, rfl⟩, fin q1.2⟩
      | exit id => exact absurd q1.1 (by simp)
      | goto t => exact absurd q1.1 (by simp)
      | panic ch => exact q1.elim
      | outgrown => exact q1.elim
    · rcases hm with hm | hm
      · exact hb.2 (.inl (.inl hm))
      · rcases MO.snoc HR hm with hm | hm
        · exact hb.2 (.inl (.inr hm))
        · exact hb.2 (.inr hm)
section
variable {P : Program} {Γ : Glo}
def regHead : List KI → Option (Array Oper × List KI)
  | .code (.region _ ops false) :: k => some (ops, k)
  | _ => none
def outY (live σ : List Nat) (L : Nat) (r : List Value × Nat × St × St × List Prop) : List Value × Nat × List DV × DH × List DV × DH × List Prop × Bool :=
  (r.1, r.2.1, (Proofs.YtekkngkphejfcaaDoor.comp live σ r.2.2.1).fr, (Proofs.YtekkngkphejfcaaDoor.comp live σ r.2.2.1).h, (Proofs.YtekkngkphejfcaaDoor.comp live σ r.2.2.2.1).fr, (Proofs.YtekkngkphejfcaaDoor.comp live σ r.2.2.2.1).h, r.2.2.2.2, sigB σ L r.2.2.1.h.length && sigB σ L r.2.2.2.1.h.length)
/-- A yield, where it stands. -/
theorem TrG.yieldAt {L : Nat} {C : ItC P Γ} {i : Nat} {Q : QY P Γ L} {S : St} {K k : List KI} {ops : Array Oper} (hF : FOk Fence.wide P) (hK : regHead K = some (ops, k)) (hnd : noDefer ops = true) (p : Nat) (orc : Orc) {x : Array Value} (live σ : List Nat) (frT : List DV) (hT : DH) (frF : List DV) (hE : DH) (vs : List Prop)
    (h : (yrun P Γ ops p S orc).map (outY live σ L) = some (x.toList, C.l, frT, hT, frF, hE, vs, true)) (hv : allP vs) (hx : C.encs[i]? = some x) (hc : isCode k = true) (hkT : TrG P Γ Fence.wide none L (C.Y L (i + 1)) Q k ⟨frT, hT⟩) (hkF : TrG P Γ Fence.wide none L (C.X L) Q k ⟨frF, hE⟩) : TrG P Γ Fence.wide none L (C.Y L i) Q K S := by
  unfold regHead at hK
  split at hK
  · rename_i id ops' k'
    cases hK
    cases hr : yrun P Γ ops p S orc with
    | none => rw [hr] at h; cases h
    | some r =>
      obtain ⟨xs, l, ST, SF, vs1⟩ := r
      rw [hr] at h
      simp only [Option.map_some, outY, Option.some.injEq, Prod.mk.injEq, Bool.and_eq_true] at h
      obtain ⟨rfl, rfl, rfl, rfl, rfl, rfl, rfl, s1, s2⟩ := h
      exact Tr.yield hF hnd hr hv hx (TrK.le (SLe.comp live σ ST s1) hc hkT) (TrK.le (SLe.comp live σ SF s2) hc hkF)
  · cases hK
theorem TrI.ret {L : Nat} {C : ItC P Γ} {Y : Yard P Γ L} (hF : FOk Fence.wide P) (hm : P.follows .mixedOrders = true) {k : List KI} {S : St} (sch : Sch) (n : Nat) (o : Orc) (vs : List Prop)
    (h : (krun P Γ sch n k S o).map (fun r => (r.1, r.2.2.1)) = some (.ret, vs)) (hv : allP vs) (hY : Y = C.Y L C.encs.length ∨ Y = C.X L) : TrG P Γ Fence.wide none L Y (C.Q L) k S := by
  cases hr : krun P Γ sch n k S o with
  | none => rw [hr] at h; cases h
  | some r =>
    obtain ⟨r1, S1, vs1, o1⟩ := r
    rw [hr] at h
    simp only [Option.map_some, Option.some.injEq, Prod.mk.injEq] at h
    obtain ⟨rfl, rfl⟩ := h
    exact krun_sound hF hm n k S o _ _ _ _ hr hv ⟨.inr rfl, hY⟩
theorem TrI.over {L : Nat} {C : ItC P Γ} {Y : Yard P Γ L} (hF : FOk Fence.wide P) (hm : P.follows .mixedOrders = true) {k : List KI} {S : St} (sch : Sch) (n : Nat) (o : Orc) (vs : List Prop)
    (h : (krun P Γ sch n k S o).map (fun r => (r.1, r.2.2.1)) = some (.at [], vs)) (hv : allP vs) (hY : Y = C.Y L C.encs.length ∨ Y = C.X L) : TrG P Γ Fence.wide none L Y (C.Q L) k S := by
  cases hr : krun P Γ sch n k S o with
  | none => rw [hr] at h; cases h
  | some r =>
    obtain ⟨r1, S1, vs1, o1⟩ := r
    rw [hr] at h
    simp only [Option.map_some, Option.some.injEq, Prod.mk.injEq] at h
    obtain ⟨rfl, rfl⟩ := h
    exact krun_sound hF hm n k S o _ _ _ _ hr hv ⟨.inl rfl, hY⟩
theorem mapSome {α β : Type} {o : Option α} {f : α → β} {r : β} (h : o.map f = some r) : ∃ a, o = some a ∧ r = f a := by
  cases o with
  | none => cases h
  | some a => cases h; exact ⟨a, rfl, rfl⟩
theorem dropCons {α β : Type} {l : List β} {i : Nat} {f : α → β} {x : α} {r : List α} (hd : l.drop i = (x :: r).map f) : l[i]? = some (f x) ∧ i + 1 ≤ l.length ∧ l.drop (i + 1) = r.map f := by
  have hlt : i < l.length := by
    rcases Nat.lt_or_ge i l.length with h | h
    · exact h
    · rw [List.drop_eq_nil_of_le h] at hd; cases hd
  rw [List.drop_eq_getElem_cons hlt] at hd
  injection hd with h1 h2
  exact ⟨by rw [List.getElem?_eq_getElem hlt, h1], hlt, h2⟩
theorem dropNil {α β : Type} {l : List β} {i : Nat} {f : α → β} (hi : i ≤ l.length) (hd : l.drop i = ([] : List α).map f) : i = l.length := by
  have := congrArg List.length hd
  simp at this
  omega
end
def encI (x : Int) : Array Value := #[.int .i64 x]
def encII (x : Int × Int) : Array Value := #[.int .i64 x.1, .int .i64 x.2]
end Go.Proofs.YtekkngkphejfcaaDoor
