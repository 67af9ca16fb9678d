/- Stores, appends, literals of structs, calls: what they do to the plainer view; that it is so. -/
import Derived.Test.YtekkngkphejfcaaDoorDact
namespace Go.Proofs.YtekkngkphejfcaaDoor
open Go.RowKit

section
variable {P : Program} {Γ : Glo} {N : Nat → Prop} {S : St} {ρ : List Place} {a : Act} {w : World} {h : DH}

theorem heap_setCells (b : Nat) (t : TypeId) (z : Nat × Nat) : ∀ (vs : List Value) (o : Nat) (w : World) (cur : Array Value), w.heap[b]? = some (.cells cur t z) → o + vs.length ≤ cur.size →
    ∃ cur', (w.setCells b o vs).heap[b]? = some (.cells cur' t z) ∧ cur'.size = cur.size ∧ ∀ k, cur'[k]? = if o ≤ k ∧ k < o + vs.length then vs[k - o]? else cur[k]?
  | [], o, w, cur, hb, _ => ⟨cur, hb, rfl, fun k => by rw [if_neg]; simp only [List.length_nil]; omega⟩
  | v :: vs, o, w, cur, hb, hl => by
    have hl' : o + (vs.length + 1) ≤ cur.size := hl
    obtain ⟨cur', h1, h2, h3⟩ := heap_setCells b t z vs (o + 1) (w.setCell ⟨b, o, none⟩ v) (cur.setIfInBounds o v) (by simp [World.setCell, Array.getElem?_modify, hb]) (by simp; omega)
    refine ⟨cur', h1, by simpa using h2, fun k => ?_⟩
    rw [h3 k, List.length_cons]
    by_cases e : k = o
    · subst e
      rw [if_neg (by omega), if_pos (by omega), Array.getElem?_setIfInBounds, if_pos rfl, if_pos (by omega), Nat.sub_self]
      rfl
    · by_cases e2 : o + 1 ≤ k ∧ k < o + 1 + vs.length
      · rw [if_pos e2, if_pos (by omega), show k - o = (k - (o + 1)) + 1 by omega]; simp
      · rw [if_neg e2, if_neg (by omega)]
        rw [Array.getElem?_setIfInBounds, if_neg (by omega)]
theorem upd_setCells (b : Nat) : ∀ (vs : List Value) (o : Nat) (w : World), Upd (fun k => k = b) w (w.setCells b o vs)
  | [], _, w => Upd.refl _ w
  | v :: vs, o, w => ((Upd.refl (fun k => k = b) w).setCell (p := ⟨b, o, none⟩) (fun _ => rfl) v).trans (upd_setCells b vs (o + 1) (w.setCell ⟨b, o, none⟩ v))

theorem RowAt.writes {p : Place} {n : Nat} {R R' : Nat → Value → Prop} (hr : RowAt w p n R) {o : Nat} {vs : List Value} (hl : o + vs.length ≤ n) (h1 : ∀ i v, vs[i]? = some v → R' (o + i) v)
    (h2 : ∀ i u, i < n → (i < o ∨ o + vs.length ≤ i) → R i u → R' i u) : RowAt (w.setCells p.blk (p.off + o) vs) p n R' := by
  obtain ⟨g1, cs, t, g2, g3, g4, g5⟩ := hr
  obtain ⟨cs', e1, e2, e3⟩ := heap_setCells p.blk t (0, 0) vs (p.off + o) w cs g2 (by omega)
  refine ⟨g1, cs', t, e1, by omega, by omega, fun j hj => ?_⟩
  rw [e3]
  by_cases e : p.off + o ≤ p.off + j ∧ p.off + j < p.off + o + vs.length
  · rw [if_pos e]
    have hi : p.off + j - (p.off + o) < vs.length := by omega
    refine ⟨vs[p.off + j - (p.off + o)], by simp [hi], ?_⟩
    have := h1 (p.off + j - (p.off + o)) _ (by simp [hi] : vs[p.off + j - (p.off + o)]? = some vs[p.off + j - (p.off + o)])
    rwa [show o + (p.off + j - (p.off + o)) = j by omega] at this
  · rw [if_neg e]
    obtain ⟨u, e4, e5⟩ := g5 j hj
    exact ⟨u, e4, h2 j u hj (by omega) e5⟩

/-- Cells put over others. -/
def splice (l : List DV) (o : Nat) (ds : List DV) : List DV := (ds.zipIdx).foldl (fun cs x => cs.set (o + x.2) x.1) l
theorem splice_go : ∀ (ds : List DV) (k o : Nat) (l : List DV), ((ds.zipIdx k).foldl (fun cs x => cs.set (o + x.2) x.1) l).length = l.length ∧
    ∀ j, j < l.length → ((ds.zipIdx k).foldl (fun cs x => cs.set (o + x.2) x.1) l).getD j .any = if o + k ≤ j ∧ j < o + k + ds.length then ds.getD (j - (o + k)) .any else l.getD j .any
  | [], k, o, l => ⟨rfl, fun j _ => by rw [if_neg]; · rfl
                                       · simp only [List.length_nil]; omega⟩
  | d :: ds, k, o, l => by
    obtain ⟨h1, h2⟩ := splice_go ds (k + 1) o (l.set (o + k) d)
    rw [List.zipIdx_cons, List.foldl_cons]
    refine ⟨by rw [h1]; simp, fun j hj => ?_⟩
    rw [h2 j (by simpa using hj), List.length_cons]
    by_cases e : j = o + k
    · subst e
      rw [if_neg (by omega), if_pos (by omega)]
      simp [hj]
    · by_cases e2 : o + (k + 1) ≤ j ∧ j < o + (k + 1) + ds.length
      · rw [if_pos e2, if_pos (by omega), show j - (o + k) = (j - (o + (k + 1))) + 1 by omega]; simp
      · rw [if_neg e2, if_neg (by omega)]
        simp only [List.getD_eq_getElem?_getD, List.getElem?_set]
        rw [if_neg (by omega)]
theorem splice_length (l : List DV) (o : Nat) (ds : List DV) : (splice l o ds).length = l.length := (splice_go ds 0 o l).1
theorem splice_get (l : List DV) (o : Nat) (ds : List DV) {j : Nat} (hj : j < l.length) : (splice l o ds).getD j .any = if o ≤ j ∧ j < o + ds.length then ds.getD (j - o) .any else l.getD j .any := by
  have := (splice_go ds 0 o l).2 j hj
  simpa [splice] using this

/-- What a store does. -/
def storeD (P : Program) (S : St) (t : TypeId) (x d : DV) : Option (DH × Prop) := match x with
  | .ref k j => match S.h[k]? with
    | some (some (.cells l)) => match dcells d with
      | some ds => if P.info? t |>.any (fun i => i.size == ds.length) then (if ds.all oneC && decide (j + ds.length ≤ l.length) then some (S.h.set k (some (.cells (splice l j ds))), True) else none) else none
      | none => none
    | _ => none
  | .mp k m i j => if P.info? t |>.any (fun i => i.size == 1) then match S.h[k]? with
    | some (some (.ints l)) => match d with
      | .int .i64 n => if m == 1 && j == 0 then some (S.h.set k (some (.ints (l.set i n))), i < l.length) else none
      | _ => none
    | some (some (.bools l)) => match d with
      | .bool b => if m == 1 && j == 0 then some (S.h.set k (some (.bools (l.set i b))), i < l.length) else none
      | _ => none
    | some (some (.arr m' n f)) => if plainC d && (m == m') && decide (j < m) then some (S.h.set k (some (.arr m n (fun i' j' => if i' = i ∧ j' = j then d else f i' j'))), i < n) else none
    | _ => none
    else none
  | _ => none

theorem plainC_one {d : DV} (h : plainC d = true) : oneC d = true := by cases d <;> first | rfl | cases h
theorem dcells_one {d : DV} (h : oneC d = true) : dcells d = some [d] := by cases d <;> first | rfl | cases h

theorem run_storeAt' {t : TypeId} {i : TypeInfo} {b o : Nat} {v : Value} (hi : P.info? t = some i) (hs : v.cells.size = i.size) (hc : ∀ j, j < v.cells.size → (w.cell? ⟨b, o + j, none⟩).isSome = true) (hf : ∀ j, w.frozen? ⟨b, j, none⟩ = false) (h1 : ∀ u ∈ v.cells.toList, u.oneCell' = true) :
    (Instr.storeAt t (.pointer (some ⟨b, o, none⟩)) v).run P w = .ok () (w.setCells b o v.cells.toList) := by
  have hst := run_storeCells_cells (P := P) b o v.cells.toList 0 w (by simpa using hc) (by simpa using fun j _ => hf _) h1
  simp only [Nat.add_zero] at hst
  simp [Instr.storeAt, Instr.sureAddr, storeVar, run_sizeOf' hi, hs, hst]

theorem get_some {α : Type} {l : List α} {i : Nat} {x d : α} (h : l[i]? = some x) : l.getD i d = x := by rw [List.getD_eq_getElem?_getD, h]; rfl

/-- A write into an object's row, by cells. -/
theorem store_got (R : Rel P Γ N S ρ a w) {k : Nat} {ob ob' : DO} {p : Place} (hk : S.h[k]? = some (some ob)) (hp : ρ[k]? = some p) {n : Nat} {Rw : Nat → Value → Prop} (hr : RowAt w p n Rw) {o' : Nat} {v : Value} {t : TypeId} {i : TypeInfo}
    (hi : P.info? t = some i) (hs : v.cells.size = i.size) (hl : o' + v.cells.size ≤ n) (h1 : ∀ u ∈ v.cells.toList, u.oneCell' = true)
    (hnew : ∀ M ρ' w', Outl (MS N S.h ρ) w ρ M w' ρ' → w' = w.setCells p.blk (p.off + o') v.cells.toList → ObjRep P M w' ρ' p ob')
    (o : Oper) (tx x : Operand) (ho : o.op = .store t tx x) (hx : a.eval tx = .pointer (some ⟨p.blk, p.off + o', none⟩)) (hv : a.eval x = v) :
    Does P (execOp a.eval o) w (Got P Γ N S.h ρ w false .any (S.h.set k (some ob'))) := by
  have hfoot : p.foot = fun b => b = p.blk := hr.1
  have hu : Upd p.foot w (w.setCells p.blk (p.off + o') v.cells.toList) := by rw [hfoot]; exact upd_setCells _ _ _ _
  refine Does.skip (s := Instr.storeAt t (a.eval tx) (a.eval x)) (by unfold execOp; rw [ho]) (w' := w.setCells p.blk (p.off + o') v.cells.toList) ?_ ?_
  · rw [hx, hv]
    refine run_storeAt' hi hs (fun j hj => ?_) (fun j => hr.frozen j) h1
    obtain ⟨u, hc, _⟩ := hr.cell (j := o' + j) (by omega)
    rw [Nat.add_assoc, hc]; rfl
  · have hcell : ∀ b, p.foot b → Lies (w.setCells p.blk (p.off + o') v.cells.toList) b := fun b hb => by
      rw [hfoot] at hb
      obtain ⟨_, cs, t', g2, g3, _⟩ := hr
      obtain ⟨c, e1, _⟩ := heap_setCells p.blk t' (0, 0) v.cells.toList (p.off + o') w cs g2 (by simp; omega)
      exact .cells (c := c) (t := t') (z := (0, 0)) (by rw [show b = p.blk from hb]; exact e1)
    exact ⟨⟨ρ, R.hr.write hk hp hu hcell (hnew _ _ _ (Outl.write trivial hk hp hu) rfl), trivial, Step.write hk hp hu, fun _ _ h => h⟩, fun h => by cases h⟩

theorem storeD_sound (R : Rel P Γ N S ρ a w) {t : TypeId} {tx x : Operand} {h' : DH} {vc : Prop} (hd : storeD P S t (opd S.fr tx) (opd S.fr x) = some (h', vc)) (hv : vc) (o : Oper) (ho : o.op = .store t tx x) :
    Does P (execOp a.eval o) w (Got P Γ N S.h ρ w false .any h') := by
  have rx := opd_rep R tx
  have rv := opd_rep R x
  unfold storeD at hd
  split at hd
  · rename_i k j e
    rw [e] at rx
    obtain ⟨p, hp, hx⟩ := rx
    split at hd
    · rename_i l hk
      obtain ⟨p', hp', hr⟩ := R.hr.obj k _ hk
      have e : p' = p := Option.some.inj (hp'.symm.trans hp)
      subst e
      split at hd
      · rename_i ds hds
        split at hd
        · rename_i hsz
          split at hd
          · rename_i hc
            cases hd
            simp only [Bool.and_eq_true, decide_eq_true_eq] at hc
            cases hi : P.info? t with
            | none => rw [hi] at hsz; cases hsz
            | some i =>
              rw [hi] at hsz
              have hsz' : i.size = ds.length := by simpa using hsz
              obtain ⟨c1, c2⟩ := dcells_spec hds rv
              have hone : ∀ u ∈ (a.eval x).cells.toList, u.oneCell' = true := fun u hu => by
                obtain ⟨q, hq, rfl⟩ := List.getElem_of_mem hu
                have hq' : q < ds.length := by rw [← c1]; simpa using hq
                obtain ⟨u, g1, g2⟩ := c2 q hq'
                have h3 := List.all_eq_true.1 hc.1 (ds.getD q .any) (by simp [hq'])
                have h4 := (oneC_val h3 g2).1
                have : (a.eval x).cells.toList[q] = u := by
                  have hq2 : q < (a.eval x).cells.size := by simpa using hq
                  rw [Array.getElem?_eq_getElem hq2] at g1; simpa using Option.some.inj g1
                rw [this]; exact h4
              refine store_got R hk hp hr hi (by omega) (o' := j) (by omega) hone (fun M ρ' w' O hw' => ?_) o tx x ho hx rfl
              subst hw'
              show RowAt _ _ (splice l j ds).length _
              rw [splice_length]
              refine RowAt.writes hr (by simp; omega) (fun q v hq => ?_) (fun q u hq hq2 hu => ?_)
              · have hq0 : q < (a.eval x).cells.size := by have := (List.getElem?_eq_some_iff.1 hq).1; simpa using this
                have hq' : q < ds.length := by omega
                obtain ⟨u, g1, g2⟩ := c2 q hq'
                have : u = v := by
                  have : (a.eval x).cells[q]? = some v := by simpa using hq
                  rw [this] at g1; exact (Option.some.inj g1).symm
                subst this
                rw [splice_get l j ds (by omega), if_pos (by omega), show j + q - j = q by omega]
                exact g2.out _ O
              · rw [splice_get l j ds hq, if_neg (by simp at hq2; omega)]
                exact hu.out _ O
          · cases hd
        · cases hd
      · cases hd
    · cases hd
  · rename_i k m i j e
    rw [e] at rx
    obtain ⟨p, hp, hx⟩ := rx
    split at hd
    · rename_i hsz
      cases hi : P.info? t with
      | none => rw [hi] at hsz; cases hsz
      | some ti =>
        rw [hi] at hsz
        have hsz' : ti.size = 1 := by simpa using hsz
        split at hd
        · rename_i l hk
          obtain ⟨p', hp', hr⟩ := R.hr.obj k _ hk
          have e : p' = p := Option.some.inj (hp'.symm.trans hp)
          subst e
          split at hd
          · rename_i n ed
            split at hd
            · rename_i hm
              cases hd
              simp only [Bool.and_eq_true, beq_iff_eq] at hm
              obtain ⟨rfl, rfl⟩ := hm
              rw [ed] at rv
              have rv' : a.eval x = .int .i64 n := rv
              refine store_got R hk hp hr hi (v := .int .i64 n) (by rw [hsz']; rfl) (o' := i) (by simp [Value.cells]; omega) (by simp [Value.cells, Value.oneCell']) (fun M ρ' w' O hw' => ?_) o tx x ho (by simpa using hx) rv'
              subst hw'
              show RowAt _ _ (l.set i n).length _
              rw [List.length_set]
              refine RowAt.writes hr (by simp [Value.cells]; omega) (fun q v hq => ?_) (fun q u hq hq2 hu => ?_)
              · have : q = 0 := by have := (List.getElem?_eq_some_iff.1 hq).1; simpa [Value.cells] using this
                subst this
                have : v = .int .i64 n := by simpa [Value.cells] using hq.symm
                rw [this]
                have hv' : i < l.length := hv
                simp [hv']
              · rw [hu]
                simp only [Value.cells, List.length_cons, List.length_nil] at hq2
                rw [List.getD_eq_getElem?_getD, List.getD_eq_getElem?_getD, List.getElem?_set, if_neg (by simp at hq2; omega)]
            · cases hd
          · cases hd
        · rename_i l hk
          obtain ⟨p', hp', hr⟩ := R.hr.obj k _ hk
          have e : p' = p := Option.some.inj (hp'.symm.trans hp)
          subst e
          split at hd
          · rename_i n ed
            split at hd
            · rename_i hm
              cases hd
              simp only [Bool.and_eq_true, beq_iff_eq] at hm
              obtain ⟨rfl, rfl⟩ := hm
              rw [ed] at rv
              have rv' : a.eval x = .bool n := rv
              refine store_got R hk hp hr hi (v := .bool n) (by rw [hsz']; rfl) (o' := i) (by simp [Value.cells]; omega) (by simp [Value.cells, Value.oneCell']) (fun M ρ' w' O hw' => ?_) o tx x ho (by simpa using hx) rv'
              subst hw'
              show RowAt _ _ (l.set i n).length _
              rw [List.length_set]
              refine RowAt.writes hr (by simp [Value.cells]; omega) (fun q v hq => ?_) (fun q u hq hq2 hu => ?_)
              · have : q = 0 := by have := (List.getElem?_eq_some_iff.1 hq).1; simpa [Value.cells] using this
                subst this
                have : v = .bool n := by simpa [Value.cells] using hq.symm
                rw [this]
                have hv' : i < l.length := hv
                simp [hv']
              · rw [hu]
                simp only [Value.cells, List.length_cons, List.length_nil] at hq2
                rw [List.getD_eq_getElem?_getD, List.getD_eq_getElem?_getD, List.getElem?_set, if_neg (by simp at hq2; omega)]
            · cases hd
          · cases hd
        · rename_i m' n f hk
          obtain ⟨p', hp', hr⟩ := R.hr.obj k _ hk
          have e : p' = p := Option.some.inj (hp'.symm.trans hp)
          subst e
          split at hd
          · rename_i hm
            cases hd
            simp only [Bool.and_eq_true, beq_iff_eq, decide_eq_true_eq] at hm
            obtain ⟨⟨hpl, rfl⟩, hj⟩ := hm
            have hv' : i < n := hv
            obtain ⟨o1, o2⟩ := oneC_val (plainC_one hpl) rv
            have inb : i * m + j < n * m := by
              have : (i + 1) * m ≤ n * m := Nat.mul_le_mul_right _ hv'
              rw [Nat.succ_mul] at this; omega
            have hm0 : 0 < m := by omega
            refine store_got R hk hp hr hi (v := a.eval x) (by rw [hsz', o2]; rfl) (o' := i * m + j) (by rw [o2]; simp; omega) (by rw [o2]; simp [o1]) (fun M ρ' w' O hw' => ?_) o tx x ho hx rfl
            subst hw'
            refine RowAt.writes hr (by rw [o2]; simp; omega) (fun q v hq => ?_) (fun q u hq hq2 hu => ?_)
            · rw [o2] at hq
              have : q = 0 := by have := (List.getElem?_eq_some_iff.1 hq).1; simpa using this
              subst this
              have : v = a.eval x := by simpa using hq.symm
              rw [this, Nat.add_zero]
              have e1 : (i * m + j) / m = i := by rw [Nat.mul_comm, Nat.mul_add_div hm0, Nat.div_eq_of_lt hj, Nat.add_zero]
              have e2 : (i * m + j) % m = j := by rw [Nat.mul_comm, Nat.mul_add_mod, Nat.mod_eq_of_lt hj]
              show RepV M _ (if (i * m + j) / m = i ∧ (i * m + j) % m = j then opd S.fr x else f ((i * m + j) / m) ((i * m + j) % m)) [] _
              rw [if_pos ⟨e1, e2⟩]
              exact RepV.out _ O.nil (plainC_nil hpl rv)
            · rw [o2] at hq2
              simp at hq2
              have : ¬ (q / m = i ∧ q % m = j) := fun ⟨e1, e2⟩ => by
                have := Nat.div_add_mod q m
                rw [e1, e2, Nat.mul_comm] at this; omega
              show RepV M _ (if q / m = i ∧ q % m = j then opd S.fr x else f (q / m) (q % m)) [] _
              rw [if_neg this]
              exact RepV.out _ O.nil hu
          · cases hd
        · cases hd
    · cases hd
  · cases hd
/-- An object goes out of sight. -/
theorem MO.kill {k : Nat} {b : Nat} (hb : MO (h.set k none) ρ b) : MO h ρ b := MO.unset hb
theorem get_kill {k i : Nat} {o : DO} (hi : (h.set k none)[i]? = some (some o)) : i ≠ k ∧ h[i]? = some (some o) := by
  rw [List.getElem?_set] at hi
  by_cases e : k = i
  · rw [if_pos e] at hi; split at hi <;> cases hi
  · rw [if_neg e] at hi; exact ⟨Ne.symm e, hi⟩
theorem HRel.kill (H : HRel P Γ N h ρ w) (k : Nat) : HRel P Γ N (h.set k none) ρ w := by
  have O : Outl (MS N h ρ) w ρ (MS N (h.set k none) ρ) w ρ := ⟨fun _ _ _ _ => rfl, fun b hb => .inl (hb.imp id MO.kill), fun _ _ h => h⟩
  refine ⟨by simp [H.len], fun i o hi => ?_, fun i o p b h1 h2 h3 => H.cel i o p b (get_kill h1).2 h2 h3, fun i i' o o' p p' b hne h1 h2 h3 h4 h5 h6 => H.dis i i' o o' p p' b hne (get_kill h1).2 (get_kill h2).2 h3 h4 h5 h6, H.nlt, H.gi⟩
  obtain ⟨p, hp, hr⟩ := H.obj i o (get_kill hi).2
  exact ⟨p, hp, hr.out O (S := fun _ => False) (Upd.refl _ w) (fun _ h => h.elim) (fun _ _ _ h => h)⟩
theorem Outl.kill (k : Nat) : Outl (MS N h ρ) w ρ (MS N (h.set k none) ρ) w ρ := ⟨fun _ _ _ _ => rfl, fun b hb => .inl (hb.imp id MO.kill), fun _ _ h => h⟩
theorem Step.kill (k : Nat) : Step h ρ w (h.set k none) ρ w := ⟨Upd.refl _ w, fun b hb => .inl (MO.kill hb)⟩

/-- An object's row goes over into a new object, which may have new blocks besides. -/
theorem HRel.regrow (H : HRel P Γ N h ρ w) {w' : World} {k : Nat} {o o' : DO} {p p' : Place} (hk : h[k]? = some (some o)) (hp : ρ[k]? = some p) (hu : Upd p.foot w w') (hf : ∀ b, p'.foot b → (p.foot b ∨ w.heap.size ≤ b) ∧ Lies w' b)
    (ho : ObjRep P (MS N (h.set k none ++ [some o']) (ρ ++ [p'])) w' (ρ ++ [p']) p' o') :
    HRel P Γ N (h.set k none ++ [some o']) (ρ ++ [p']) w' ∧ Step h ρ w (h.set k none ++ [some o']) (ρ ++ [p']) w' := by
  have K := H.kill k
  have hlen : (h.set k none).length = h.length := by simp
  have hM : ∀ b, p.foot b → MO h ρ b := fun b hb => ⟨k, o, p, hk, hp, hb⟩
  have inv : ∀ {i : Nat} {o1 : DO} {p1 : Place}, (h.set k none ++ [some o'])[i]? = some (some o1) → (ρ ++ [p'])[i]? = some p1 → (i ≠ k ∧ i < h.length ∧ h[i]? = some (some o1) ∧ ρ[i]? = some p1) ∨ (i = h.length ∧ o1 = o' ∧ p1 = p') := by
    intro i o1 p1 h1 h2
    rcases get_snoc h1 with ⟨hl, h1⟩ | ⟨hl, h1⟩
    · rw [hlen] at hl
      rcases get_snoc h2 with ⟨_, h2⟩ | ⟨hl2, _⟩
      · exact .inl ⟨(get_kill h1).1, hl, (get_kill h1).2, h2⟩
      · rw [H.len] at hl2; omega
    · rw [hlen] at hl
      rcases get_snoc h2 with ⟨hl2, _⟩ | ⟨_, h2⟩
      · rw [H.len] at hl2; omega
      · cases h1; exact .inr ⟨hl, rfl, h2.symm⟩
  have grow : ∀ b, MO (h.set k none ++ [some o']) (ρ ++ [p']) b → MO h ρ b ∨ w.heap.size ≤ b := by
    rintro b ⟨i, o1, p1, h1, h2, h3⟩
    rcases inv h1 h2 with ⟨_, _, g1, g2⟩ | ⟨_, _, rfl⟩
    · exact .inl ⟨i, o1, p1, g1, g2, h3⟩
    · exact (hf b h3).1.imp (hM b) id
  have O : Outl (MS N h ρ) w ρ (MS N (h.set k none ++ [some o']) (ρ ++ [p'])) w' (ρ ++ [p']) := by
    refine ⟨fun b hb hm _ => hu.block b hb fun hx => hm (.inr (hM b hx)), fun b hb => ?_, fun i q hi => get_snoc_left hi⟩
    rcases hb with hb | hb
    · exact .inl (.inl hb)
    · exact (grow b hb).imp .inr id
  refine ⟨⟨by simp [H.len], fun i o1 hi => ?_, fun i o1 p1 b h1 h2 h3 => ?_, fun i i' o1 o2 p1 p2 b hne h1 h2 h3 h4 h5 h6 => ?_, fun b hb => ⟨Nat.lt_of_lt_of_le (H.nlt b hb).1 hu.size, (H.nlt b hb).2⟩, Γ.st _ _ H.gi (hu.mono fun b _ hb => (H.cel k o p b hk hp hb).1)⟩, ⟨hu.mono fun b _ hb => hM b hb, grow⟩⟩
  · rcases get_snoc hi with ⟨hl, hi⟩ | ⟨hl, hi⟩
    · obtain ⟨p1, hp1, hr⟩ := H.obj i o1 (get_kill hi).2
      refine ⟨p1, get_snoc_left hp1, hr.out O hu (fun b hb => .inr (hM b hb)) fun b _ h1 h2 => H.dis i k o1 o p1 p b (get_kill hi).1 (get_kill hi).2 hk hp1 hp h1 h2⟩
    · cases hi
      exact ⟨p', by rw [hl, hlen, ← H.len]; simp, ho⟩
  · rcases inv h1 h2 with ⟨hne, _, g1, g2⟩ | ⟨_, _, rfl⟩
    · obtain ⟨e1, e2, c, t, z, e3⟩ := H.cel i o1 p1 b g1 g2 h3
      exact ⟨e1, e2, c, t, z, (hu.block b (Array.getElem?_eq_some_iff.1 e3).1 fun hx => H.dis i k o1 o p1 p b hne g1 hk g2 hp h3 hx).trans e3⟩
    · obtain ⟨e1, e2⟩ := hf b h3
      rcases e1 with e1 | e1
      · obtain ⟨q1, q2, _⟩ := H.cel k o p b hk hp e1
        exact ⟨q1, q2, e2⟩
      · exact ⟨Nat.le_trans (Γ.lo _ H.gi) e1, fun hn => by have := H.nlt b hn; omega, e2⟩
  · have key : ∀ {i o1 p1}, i ≠ k → h[i]? = some (some o1) → ρ[i]? = some p1 → p1.foot b → p'.foot b → False := fun {i o1 p1} hne g1 g2 g3 g4 => by
      rcases (hf b g4).1 with e1 | e1
      · exact H.dis i k o1 o p1 p b hne g1 hk g2 hp g3 e1
      · have := H.lt (.inr ⟨i, o1, p1, g1, g2, g3⟩); omega
    rcases inv h1 h3 with ⟨hne1, _, g1, g2⟩ | ⟨e1, _, rfl⟩
    · rcases inv h2 h4 with ⟨_, _, g3, g4⟩ | ⟨_, _, rfl⟩
      · exact H.dis i i' o1 o2 p1 p2 b hne g1 g3 g2 g4 h5 h6
      · exact key hne1 g1 g2 h5 h6
    · rcases inv h2 h4 with ⟨hne2, _, g3, g4⟩ | ⟨e2, _, rfl⟩
      · exact key hne2 g3 g4 h6 h5
      · exact hne (e1.trans e2.symm)

/-- One object's row goes on behind another's. -/
def appR (n : Nat) (R : Nat → Value → Prop) (news : List Value) (j : Nat) (u : Value) : Prop := if j < n then R j u else news[j - n]? = some u

/-- Append, at a row of the view's own. -/
theorem append_row {t ty e : TypeId} {i : TypeInfo} {z : Value} (hu : P.underlying t = some (.slice e)) (hi : P.info? e = some i) (hz : i.zero = some z) (hs0 : i.size ≠ 0) (hzs : z.cells.size = i.size) (hby : i.bytes ≤ 128)
    {p : Place} {n cap : Nat} {R : Nat → Value → Prop} (hr : RowAt w p (n * i.size) R) (hcap : n ≤ cap) (hroom : p.off + cap * i.size ≤ p.room)
    {vy : Value} {c : Nat} {news : List Value} (hy : Src P i.size t vy c news w) (hb : n + c ≤ 1000000000000) :
    ∃ w' p' cap', (Builtin.append_ #[t, t] ty #[.slice (some ⟨p.blk, p.off, none⟩) n cap, vy]).run P w = .ok (.slice (some ⟨p'.blk, p'.off, none⟩) (n + c) cap') w' ∧ n + c ≤ cap' ∧ p'.off + cap' * i.size ≤ p'.room ∧
      Upd p.foot w w' ∧ (∀ b, p'.foot b → p.foot b ∨ w.heap.size ≤ b) ∧ RowAt w' p' ((n + c) * i.size) (appR (n * i.size) R news) := by
  have hnl : news.length = c * i.size := hy.newsLen
  by_cases hroom2 : n + c ≤ cap
  · obtain ⟨g1, cs, tt, g2, g3, g4, g5⟩ := hr
    have hmul : (n + c) * i.size ≤ cap * i.size := Nat.mul_le_mul_right _ hroom2
    rw [Nat.add_mul] at hmul
    have hfit : p.off + n * i.size + news.length ≤ cs.size := by omega
    refine ⟨w.setCells p.blk (p.off + n * i.size) news, p, cap, run_append_room_src w t t ty e i hu hi p.blk p.off n cap vy c news hy hroom2 (fun j hj => ?_) (fun j _ => by unfold World.frozen?; simp [g2]), hroom2, hroom, ?_, fun b hb => .inl hb, ?_⟩
    · unfold World.cell?; simp only [g2]
      simp; omega
    · rw [g1]; exact upd_setCells _ _ _ _
    · obtain ⟨cs', e1, e2, e3⟩ := heap_setCells p.blk tt (0, 0) news (p.off + n * i.size) w cs g2 hfit
      refine ⟨g1, cs', tt, e1, by rw [Nat.add_mul]; omega, by omega, fun j hj => ?_⟩
      rw [Nat.add_mul] at hj
      rw [e3]
      by_cases hjn : j < n * i.size
      · rw [if_neg (by omega)]
        obtain ⟨u, q1, q2⟩ := g5 j hjn
        exact ⟨u, q1, by unfold appR; rw [if_pos hjn]; exact q2⟩
      · rw [if_pos (by omega)]
        have hlt : j - n * i.size < news.length := by omega
        refine ⟨news[j - n * i.size], by rw [show p.off + j - (p.off + n * i.size) = j - n * i.size by omega]; simp [hlt], ?_⟩
        unfold appR; rw [if_neg hjn]; simp [hlt]
  · obtain ⟨g, hg⟩ : ∃ g : Nat → Value, ∀ j, j < n * i.size → w.cell? ⟨p.blk, p.off + j, none⟩ = some (g j) ∧ R j (g j) := by
      refine ⟨fun j => (w.cell? ⟨p.blk, p.off + j, none⟩).getD undef, fun j hj => ?_⟩
      obtain ⟨u, h1, h2⟩ := hr.cell hj
      simp [h1, h2]
    have hold : (Builtin.firstCells i.size n (.slice (some ⟨p.blk, p.off, none⟩) n cap)).run P w.drew = .ok (((List.range (n * i.size)).map g).toArray) w.drew := by
      have := run_loadCells (P := P) w.drew ⟨p.blk, p.off, none⟩ (n * i.size) g (fun j hj => by rw [add_none]; exact ((Ext.toDrew w).cell (hg j hj).1))
      simpa [Builtin.firstCells] using this
    have hn128 : (n + c) * i.bytes ≤ 1000000000000 * 128 := Nat.mul_le_mul hb hby
    have hrun := run_append_grow_src (P := P) w t t ty e i z hu hi hz (some ⟨p.blk, p.off, none⟩) n cap _ hold vy c news hy (by omega) (by omega) (growslice_fits (by omega) (by omega))
    have hge : n + c ≤ grownCap w (n + c) cap e := grownCap_ge w (n + c) cap e
    have hcs : ((((List.range (n * i.size)).map g) ++ news).toArray ++ Builtin.zeroCells z.cells (grownCap w (n + c) cap e - (n + c))).size = grownCap w (n + c) cap e * i.size := by
      simp only [Array.size_append, List.size_toArray, List.length_append, List.length_map, List.length_range, hnl, size_zeroCells, hzs, ← Nat.add_mul]
      congr 1; omega
    refine ⟨_, newPlace w (grownCap w (n + c) cap e * i.size), grownCap w (n + c) cap e, hrun, hge, by simp [newPlace], ?_, fun b hb => .inr (Nat.le_of_eq (Eq.symm hb)), ?_⟩
    · exact Upd.ofExt ((Ext.toDrew w).allocR _)
    · refine RowAt.out (row_made (w := w) (w1 := w.drew) (t := e) (cs := (((List.range (n * i.size)).map g) ++ news).toArray ++ Builtin.zeroCells z.cells (grownCap w (n + c) cap e - (n + c))) rfl hcs |> fun hr => ?_) rfl (R := fun j u => ((((List.range (n * i.size)).map g) ++ news).toArray ++ Builtin.zeroCells z.cells (grownCap w (n + c) cap e - (n + c)))[j]? = some u) fun j u hj hu' => ?_
      · obtain ⟨q1, cs, tt, q2, q3, q4, q5⟩ := hr
        have hle : (n + c) * i.size ≤ grownCap w (n + c) cap e * i.size := Nat.mul_le_mul_right _ hge
        exact ⟨q1, cs, tt, q2, by omega, q4, fun j hj => q5 j (by omega)⟩
      · rw [Nat.add_mul] at hj
        unfold appR
        have hl1 : j < (((List.range (n * i.size)).map g) ++ news).length := by simp; omega
        rw [Array.getElem?_append_left (by simpa using hl1)] at hu'
        by_cases hjn : j < n * i.size
        · rw [if_pos hjn]
          have : u = g j := by
            simp only [List.getElem?_toArray] at hu'
            rw [List.getElem?_append_left (by simpa using hjn)] at hu'
            simp [hjn] at hu'
            exact hu'.symm
          rw [this]; exact (hg j hjn).2
        · rw [if_neg hjn]
          simp only [List.getElem?_toArray] at hu'
          rw [List.getElem?_append_right (by simp; omega)] at hu'
          simpa using hu'

/-- Append onto nil. -/
theorem append_nil_row {t ty e : TypeId} {i : TypeInfo} {z : Value} (hu : P.underlying t = some (.slice e)) (hi : P.info? e = some i) (hz : i.zero = some z) (hzs : z.cells.size = i.size) (hby : i.bytes ≤ 128)
    {vy : Value} {c : Nat} {news : List Value} (hy : Src P i.size t vy c news w) (hc : 0 < c) (hb : c ≤ 1000000000000) :
    ∃ w' cap', (Builtin.append_ #[t, t] ty #[.slice none 0 0, vy]).run P w = .ok (.slice (some ⟨w.heap.size, 0, none⟩) c cap') w' ∧ c ≤ cap' ∧ ∃ cs, w' = w.drew.alloc (.cells cs e) ∧ cs.size = cap' * i.size ∧ ∀ j, j < c * i.size → cs[j]? = news[j]? := by
  have hnl : news.length = c * i.size := hy.newsLen
  have hold : (Builtin.firstCells i.size 0 (.slice none 0 0)).run P w.drew = .ok (([] : List Value).toArray) w.drew := rfl
  have hn128 : c * i.bytes ≤ 1000000000000 * 128 := Nat.mul_le_mul hb hby
  have hrun := run_append_grow_src (P := P) w t t ty e i z hu hi hz none 0 0 [] hold vy c news hy (by omega) (by omega) (growslice_fits (by omega) (by rw [Nat.zero_add]; omega))
  rw [Nat.zero_add] at hrun
  have hge : c ≤ grownCap w c 0 e := grownCap_ge w c 0 e
  refine ⟨_, _, hrun, hge, _, rfl, ?_, fun j hj => ?_⟩
  · simp only [List.nil_append, Array.size_append, List.size_toArray, hnl, size_zeroCells, hzs, ← Nat.add_mul]
    congr 1; omega
  · rw [Array.getElem?_append_left (by simp; omega)]
    simp

end
end Go.Proofs.YtekkngkphejfcaaDoor
