/- Appends and calls and literals of structs, on the plainer view. -/
import Derived.Test.YtekkngkphejfcaaDoorDwrite
namespace Go.Proofs.YtekkngkphejfcaaDoor
open Go.RowKit

/-- A slice of integers, as a list. -/
def intsOf (S : St) : DV → Option (List Int × Prop)
  | .nils => some ([], True)
  | .ints l => some (l, True)
  | .msl k m off n => match S.h[k]? with
    | some (some (.ints l)) => if m == 1 then some (l, off = 0 ∧ n = l.length) else none
    | _ => none
  | _ => none
def boolsOf (S : St) : DV → Option (List Bool × Prop)
  | .nils => some ([], True)
  | .bools l => some (l, True)
  | .msl k m off n => match S.h[k]? with
    | some (some (.bools l)) => if m == 1 then some (l, off = 0 ∧ n = l.length) else none
    | _ => none
  | _ => none
def genOf (S : St) (m : Nat) : DV → Option (Nat × (Nat → Nat → DV) × Prop)
  | .nils => some (0, (fun _ _ => .any), True)
  | .sl m' n f => if m' == m then some (n, f, True) else none
  | .msl k m' off n => match S.h[k]? with
    | some (some (.arr m2 n2 f)) => if m' == m && m2 == m then some (n2, f, off = 0 ∧ n = n2) else none
    | _ => none
  | _ => none
def LIM : Nat := 1000000000000

def appendD (P : Program) (S : St) (t : TypeId) (x y : DV) : Option (DV × DH × Prop) := match ekB P t with
  | some (k, _, i, _) => if 128 < i.bytes then none else match k with
    | .ints => match intsOf S y with
      | some (ys, vy) => match x with
        | .nils => some (.msl S.h.length 1 0 ys.length, S.h ++ [some (.ints ys)], vy ∧ 0 < ys.length ∧ ys.length ≤ LIM)
        | .msl k m off n => match S.h[k]? with
          | some (some (.ints xs)) => if m == 1 then some (.msl S.h.length 1 0 (xs.length + ys.length), S.h.set k none ++ [some (.ints (xs ++ ys))], vy ∧ (off = 0 ∧ n = xs.length) ∧ xs.length + ys.length ≤ LIM) else none
          | _ => none
        | _ => none
      | none => none
    | .bools => match boolsOf S y with
      | some (ys, vy) => match x with
        | .nils => some (.msl S.h.length 1 0 ys.length, S.h ++ [some (.bools ys)], vy ∧ 0 < ys.length ∧ ys.length ≤ LIM)
        | .msl k m off n => match S.h[k]? with
          | some (some (.bools xs)) => if m == 1 then some (.msl S.h.length 1 0 (xs.length + ys.length), S.h.set k none ++ [some (.bools (xs ++ ys))], vy ∧ (off = 0 ∧ n = xs.length) ∧ xs.length + ys.length ≤ LIM) else none
          | _ => none
        | _ => none
      | none => none
    | .gen m => match genOf S m y with
      | some (c, g, vy) => match x with
        | .nils => some (.msl S.h.length m 0 c, S.h ++ [some (.arr m c g)], (vy ∧ ∀ i j, i < c → j < m → oneC (g i j) = true) ∧ 0 < c ∧ c ≤ LIM)
        | .msl k m' off n => match S.h[k]? with
          | some (some (.arr m2 n2 f)) => if m' == m && m2 == m then some (.msl S.h.length m 0 (n2 + c), S.h.set k none ++ [some (.arr m (n2 + c) (fun i j => if i < n2 then f i j else g (i - n2) j))], (vy ∧ ∀ i j, i < c → j < m → oneC (g i j) = true) ∧ (off = 0 ∧ n = n2) ∧ n2 + c ≤ LIM) else none
          | _ => none
        | _ => none
      | none => none
  | none => none

section
variable {P : Program} {Γ : Glo} {N : Nat → Prop} {S : St} {ρ : List Place} {a : Act} {w : World} {h : DH}

theorem src_of {t e : TypeId} (hu : P.underlying t = some (.slice e)) {m : Nat} {ad : Option Addr} {c cap : Nat} {news : List Value} (hl : news.length = c * m) (hc : ∀ j u, news[j]? = some u → ∃ b o, ad = some ⟨b, o, none⟩ ∧ w.cell? ⟨b, o + j, none⟩ = some u)
    (h1 : ∀ u ∈ news, u.oneCell' = true) (hm : 0 < m) (hnone : ad = none → c = 0) : Src P m t (.slice ad c cap) c news w := by
  cases ad with
  | none =>
    have := hnone rfl
    subst this
    have : news = [] := List.eq_nil_of_length_eq_zero (by simpa using hl)
    subst this
    exact Src.ofNil w hu cap
  | some ad =>
    refine Src.ofSlice w hu ad c cap news hl (fun j u hj => ?_) h1
    obtain ⟨b, o, e1, e2⟩ := hc j u hj
    cases e1
    rw [add_none]; exact e2

/-- A slice's cells, to be appended. -/
theorem intsOf_src (R : Rel P Γ N S ρ a w) {t e : TypeId} (hu : P.underlying t = some (.slice e)) {y : DV} {v : Value} (hy : RepV (MS N S.h ρ) w y ρ v) {ys : List Int} {vy : Prop} (h : intsOf S y = some (ys, vy)) (hv : vy) :
    Src P 1 t v ys.length (ys.map (Value.int .i64)) w := by
  have one : ∀ u ∈ ys.map (Value.int .i64), u.oneCell' = true := fun u hu => by obtain ⟨n, _, rfl⟩ := List.mem_map.1 hu; rfl
  have val : ∀ {j : Nat} {u : Value}, (ys.map (Value.int .i64))[j]? = some u → j < ys.length ∧ u = .int .i64 (ys.getD j 0) := fun {j u} hj => by
    have hlt := (List.getElem?_eq_some_iff.1 hj).1
    have hlt : j < ys.length := by simpa using hlt
    simp [hlt] at hj
    exact ⟨hlt, by rw [← hj]; simp [hlt]⟩
  unfold intsOf at h
  split at h
  · cases h; rw [show v = _ from hy]; exact Src.ofNil w hu 0
  · cases h
    obtain ⟨ad, cap, rfl, h1, h2, h3⟩ := hy
    refine src_of hu (by simp) (fun j u hj => ?_) one (by omega) (fun e => ?_)
    · obtain ⟨hlt, rfl⟩ := val hj
      obtain ⟨b, o, e1, _, e2⟩ := h3 j hlt
      exact ⟨b, o, e1, e2⟩
    · rcases Nat.eq_zero_or_pos ys.length with h0 | h0
      · exact h0
      · obtain ⟨b, o, e1, _⟩ := h3 0 h0; rw [e] at e1; cases e1
  · rename_i k m off n
    obtain ⟨p, cap, hp, rfl, h1, h2, h3⟩ := hy
    split at h
    · rename_i l hk
      split at h
      · rename_i hm
        cases h
        have hm' : m = 1 := by simpa using hm
        subst hm'
        obtain ⟨p', hp', hr⟩ := R.hr.obj k _ hk
        have e : p' = p := Option.some.inj (hp'.symm.trans hp)
        subst e
        obtain ⟨rfl, rfl⟩ := hv
        refine src_of hu (by simp) (fun j u hj => ?_) one (by omega) (fun e => by cases e)
        obtain ⟨hlt, rfl⟩ := val hj
        obtain ⟨u, e1, e2⟩ := RowAt.cell hr hlt
        exact ⟨p'.blk, p'.off, by simp, by rw [e1, e2]⟩
      · cases h
    · cases h
  · cases h
theorem boolsOf_src (R : Rel P Γ N S ρ a w) {t e : TypeId} (hu : P.underlying t = some (.slice e)) {y : DV} {v : Value} (hy : RepV (MS N S.h ρ) w y ρ v) {ys : List Bool} {vy : Prop} (h : boolsOf S y = some (ys, vy)) (hv : vy) :
    Src P 1 t v ys.length (ys.map Value.bool) w := by
  have one : ∀ u ∈ ys.map Value.bool, u.oneCell' = true := fun u hu => by obtain ⟨n, _, rfl⟩ := List.mem_map.1 hu; rfl
  have val : ∀ {j : Nat} {u : Value}, (ys.map Value.bool)[j]? = some u → j < ys.length ∧ u = .bool (ys.getD j false) := fun {j u} hj => by
    have hlt := (List.getElem?_eq_some_iff.1 hj).1
    have hlt : j < ys.length := by simpa using hlt
    simp [hlt] at hj
    exact ⟨hlt, by rw [← hj]; simp [hlt]⟩
  unfold boolsOf at h
  split at h
  · cases h; rw [show v = _ from hy]; exact Src.ofNil w hu 0
  · cases h
    obtain ⟨ad, cap, rfl, h1, h2, h3⟩ := hy
    refine src_of hu (by simp) (fun j u hj => ?_) one (by omega) (fun e => ?_)
    · obtain ⟨hlt, rfl⟩ := val hj
      obtain ⟨b, o, e1, _, e2⟩ := h3 j hlt
      exact ⟨b, o, e1, e2⟩
    · rcases Nat.eq_zero_or_pos ys.length with h0 | h0
      · exact h0
      · obtain ⟨b, o, e1, _⟩ := h3 0 h0; rw [e] at e1; cases e1
  · rename_i k m off n
    obtain ⟨p, cap, hp, rfl, h1, h2, h3⟩ := hy
    split at h
    · rename_i l hk
      split at h
      · rename_i hm
        cases h
        have hm' : m = 1 := by simpa using hm
        subst hm'
        obtain ⟨p', hp', hr⟩ := R.hr.obj k _ hk
        have e : p' = p := Option.some.inj (hp'.symm.trans hp)
        subst e
        obtain ⟨rfl, rfl⟩ := hv
        refine src_of hu (by simp) (fun j u hj => ?_) one (by omega) (fun e => by cases e)
        obtain ⟨hlt, rfl⟩ := val hj
        obtain ⟨u, e1, e2⟩ := RowAt.cell hr hlt
        exact ⟨p'.blk, p'.off, by simp, by rw [e1, e2]⟩
      · cases h
    · cases h
  · cases h

theorem exec_append {ρ' : Operand → Value} {o : Oper} {c : Call} {x y : Operand} {t t2 : TypeId} (ho : o.op = .call c) (hc : c.callee = .builtin .append) (ha : c.args.toList = [x, y]) (ht : c.argTypes.toList = [t, t2]) :
    execOp ρ' o = (do pure (.value (← Builtin.append_ #[t, t2] o.type #[ρ' x, ρ' y]))) := by
  unfold execOp
  rw [ho]
  show (resolve ρ' c o.type >>= fun d => invoke d.target d.args) = _
  unfold resolve
  rw [hc, toList_two ha, toList_two ht]
  simp
  rfl

/-- Append at an object of the view's. -/
theorem append_obj_got (R : Rel P Γ N S ρ a w) {t e : TypeId} {i : TypeInfo} {z : Value} (hu : P.underlying t = some (.slice e)) (hi : P.info? e = some i) (hz : i.zero = some z) (hs0 : i.size ≠ 0) (hzs : z.cells.size = i.size) (hby : i.bytes ≤ 128)
    {k : Nat} {ob ob' : DO} {p : Place} (hk : S.h[k]? = some (some ob)) (hp : ρ[k]? = some p) {n cap c : Nat} {Rw : Nat → Value → Prop} (hr : RowAt w p (n * i.size) Rw) (hcap : n ≤ cap) (hroom : p.off + cap * i.size ≤ p.room)
    {vy : Value} {news : List Value} (hy : Src P i.size t vy c news w) (hb : n + c ≤ LIM)
    (hnew : ∀ M ρ' w' p', Outl (MS N S.h ρ) w ρ M w' ρ' → RowAt w' p' ((n + c) * i.size) (appR (n * i.size) Rw news) → ObjRep P M w' ρ' p' ob')
    (o : Oper) {cl : Call} {x y : Operand} (ho : o.op = .call cl) (hc : cl.callee = .builtin .append) (ha : cl.args.toList = [x, y]) (ht : cl.argTypes.toList = [t, t]) (hx : a.eval x = .slice (some ⟨p.blk, p.off, none⟩) n cap) (hvy : a.eval y = vy) :
    Does P (execOp a.eval o) w (Got P Γ N S.h ρ w false (.msl S.h.length i.size 0 (n + c)) (S.h.set k none ++ [some ob'])) := by
  obtain ⟨w', p', cap', h1, h2, h3, h4, h5, h6⟩ := append_row (ty := o.type) hu hi hz hs0 hzs hby hr hcap hroom hy hb
  refine Does.value (exec_append ho hc ha ht) (by rw [hx, hvy]; exact h1) ?_
  have hcells : ∀ b, p'.foot b → Lies w' b := fun b hb => by
    obtain ⟨e1, cs, tt, e2, _⟩ := h6
    rw [e1] at hb
    exact .cells (c := cs) (t := tt) (z := (0, 0)) (by rw [show b = p'.blk from hb]; exact e2)
  have hlen : (S.h.set k none).length = S.h.length := by simp
  have O : Outl (MS N S.h ρ) w ρ (MS N (S.h.set k none ++ [some ob']) (ρ ++ [p'])) w' (ρ ++ [p']) := by
    refine ⟨fun b hb hm _ => h4.block b hb fun hx => hm (.inr ⟨k, ob, p, hk, hp, hx⟩), fun b hb => ?_, fun i q hi => get_snoc_left hi⟩
    rcases hb with hb | hb
    · exact .inl (.inl hb)
    · obtain ⟨i1, o1, p1, g1, g2, g3⟩ := hb
      rcases get_snoc g1 with ⟨hl, g1⟩ | ⟨hl, _⟩
      · rcases get_snoc g2 with ⟨_, g2⟩ | ⟨hl2, _⟩
        · exact .inl (.inr ⟨i1, o1, p1, (get_kill g1).2, g2, g3⟩)
        · rw [hlen] at hl; rw [R.hr.len] at hl2; omega
      · rcases get_snoc g2 with ⟨hl2, _⟩ | ⟨_, rfl⟩
        · rw [hlen] at hl; rw [R.hr.len] at hl2; omega
        · exact (h5 b g3).imp (fun hx => .inr ⟨k, ob, p, hk, hp, hx⟩) id
  obtain ⟨g1, g2⟩ := R.hr.regrow (o' := ob') hk hp h4 (fun b hb => ⟨h5 b hb, hcells b hb⟩) (hnew _ _ _ _ O h6)
  refine ⟨⟨ρ ++ [p'], g1, ⟨p', cap', by rw [← R.hr.len]; simp, by simp, h2, by unfold LB; unfold LIM at hb; omega, by simpa using h3⟩, g2, fun _ _ h => get_snoc_left h⟩, fun h => by cases h⟩

/-- Append at nil. -/
theorem append_nil_got (R : Rel P Γ N S ρ a w) {t e : TypeId} {i : TypeInfo} {z : Value} (hu : P.underlying t = some (.slice e)) (hi : P.info? e = some i) (hz : i.zero = some z) (hzs : z.cells.size = i.size) (hby : i.bytes ≤ 128)
    {ob' : DO} {c : Nat} {vy : Value} {news : List Value} (hy : Src P i.size t vy c news w) (hc0 : 0 < c) (hb : c ≤ LIM)
    (hnew : ∀ M ρ' w' p', Outl (MS N S.h ρ) w ρ M w' ρ' → RowAt w' p' (c * i.size) (fun j u => news[j]? = some u) → ObjRep P M w' ρ' p' ob') (ext : Bool)
    (o : Oper) {cl : Call} {x y : Operand} (ho : o.op = .call cl) (hc : cl.callee = .builtin .append) (ha : cl.args.toList = [x, y]) (ht : cl.argTypes.toList = [t, t]) (hx : a.eval x = .slice none 0 0) (hvy : a.eval y = vy) :
    Does P (execOp a.eval o) w (Got P Γ N S.h ρ w ext (.msl S.h.length i.size 0 c) (S.h ++ [some ob'])) := by
  obtain ⟨w', cap', h1, h2, cs, rfl, h4, h5⟩ := append_nil_row (ty := o.type) hu hi hz hzs hby hy hc0 hb
  have hnl : news.length = c * i.size := hy.newsLen
  refine Does.value (exec_append ho hc ha ht) (by rw [hx, hvy]; exact h1) ?_
  have hle : c * i.size ≤ cap' * i.size := Nat.mul_le_mul_right _ h2
  refine got_new (d := .msl S.h.length i.size 0 c) R.hr ⟨Ext.toDrew w, rfl⟩ (fun M ρ' O => hnew _ _ _ _ O ?_) (fun M ρ' hp => ⟨_, cap', hp, by simp [newPlace], h2, by unfold LB; unfold LIM at hb; omega, by simp only [newPlace]; omega⟩) ext
  refine row_new rfl (by omega) fun j hj => ?_
  rw [h5 j hj]
  exact ⟨news[j], by simp [hnl, hj], by simp [hnl, hj]⟩

theorem ints_appR {xs ys : List Int} {M : Nat → Prop} {w' : World} {ρ' : List Place} {p' : Place} {s : Nat} (hs : s = 1) (h : RowAt w' p' ((xs.length + ys.length) * s) (appR (xs.length * s) (fun j u => u = .int .i64 (xs.getD j 0)) (ys.map (Value.int .i64)))) : ObjRep P M w' ρ' p' (.ints (xs ++ ys)) := by
  subst hs
  show RowAt _ _ (xs ++ ys).length _
  rw [List.length_append]
  rw [Nat.mul_one, Nat.mul_one] at h
  refine RowAt.out h rfl fun j u hj hu => ?_
  unfold appR at hu
  split at hu
  · rename_i hlt
    rw [hu]; simp [List.getD_eq_getElem?_getD, List.getElem?_append_left hlt]
  · rename_i hlt
    have hj2 : j - xs.length < ys.length := by omega
    simp [hj2] at hu
    rw [← hu]; simp [List.getD_eq_getElem?_getD, List.getElem?_append_right (Nat.le_of_not_lt hlt), hj2]
theorem bools_appR {xs ys : List Bool} {M : Nat → Prop} {w' : World} {ρ' : List Place} {p' : Place} {s : Nat} (hs : s = 1) (h : RowAt w' p' ((xs.length + ys.length) * s) (appR (xs.length * s) (fun j u => u = .bool (xs.getD j false)) (ys.map Value.bool))) : ObjRep P M w' ρ' p' (.bools (xs ++ ys)) := by
  subst hs
  show RowAt _ _ (xs ++ ys).length _
  rw [List.length_append]
  rw [Nat.mul_one, Nat.mul_one] at h
  refine RowAt.out h rfl fun j u hj hu => ?_
  unfold appR at hu
  split at hu
  · rename_i hlt
    rw [hu]; simp [List.getD_eq_getElem?_getD, List.getElem?_append_left hlt]
  · rename_i hlt
    have hj2 : j - xs.length < ys.length := by omega
    simp [hj2] at hu
    rw [← hu]; simp [List.getD_eq_getElem?_getD, List.getElem?_append_right (Nat.le_of_not_lt hlt), hj2]
theorem genOf_src (R : Rel P Γ N S ρ a w) {t e : TypeId} (hu : P.underlying t = some (.slice e)) {y : DV} {v : Value} (hy : RepV (MS N S.h ρ) w y ρ v) {m c : Nat} (hm0 : 0 < m) {g : Nat → Nat → DV} {vy : Prop} (h : genOf S m y = some (c, g, vy)) (hv : vy)
    (h1 : ∀ i j, i < c → j < m → oneC (g i j) = true) : ∃ news, Src P m t v c news w ∧ ∀ j u, news[j]? = some u → RepV (MS N S.h ρ) w (g (j / m) (j % m)) [] u := by
  have dm : ∀ {j : Nat}, j < c * m → j / m < c ∧ j % m < m ∧ j / m * m + j % m = j := fun {j} hj => ⟨by rw [Nat.div_lt_iff_lt_mul hm0]; exact hj, Nat.mod_lt _ hm0, by rw [Nat.mul_comm]; exact Nat.div_add_mod j m⟩
  have core : ∀ (ad : Option Addr) (cap : Nat), (∀ j, j < c * m → ∃ b o u, ad = some ⟨b, o, none⟩ ∧ w.cell? ⟨b, o + j, none⟩ = some u ∧ RepV (MS N S.h ρ) w (g (j / m) (j % m)) [] u) → v = .slice ad c cap → (ad = none → c = 0) →
      ∃ news, Src P m t v c news w ∧ ∀ j u, news[j]? = some u → RepV (MS N S.h ρ) w (g (j / m) (j % m)) [] u := by
    intro ad cap hc hve hnone
    obtain ⟨f, hf⟩ : ∃ f : Nat → Value, ∀ j, j < c * m → ∃ b o, ad = some ⟨b, o, none⟩ ∧ w.cell? ⟨b, o + j, none⟩ = some (f j) ∧ RepV (MS N S.h ρ) w (g (j / m) (j % m)) [] (f j) := by
      refine ⟨fun j => (match ad with | some a => w.cell? ⟨a.block, a.off + j, none⟩ | none => none).getD undef, fun j hj => ?_⟩
      obtain ⟨b, o, u, rfl, e2, e3⟩ := hc j hj
      exact ⟨b, o, rfl, by simp [e2], by simpa [e2] using e3⟩
    have val : ∀ {j : Nat} {u : Value}, ((List.range (c * m)).map f)[j]? = some u → j < c * m ∧ u = f j := fun {j u} hj => by
      have hlt := (List.getElem?_eq_some_iff.1 hj).1
      have hlt : j < c * m := by simpa using hlt
      simp [hlt] at hj
      exact ⟨hlt, hj.symm⟩
    refine ⟨(List.range (c * m)).map f, ?_, fun j u hj => ?_⟩
    · rw [hve]
      refine src_of hu (by simp) (fun j u hj => ?_) (fun u hu' => ?_) hm0 hnone
      · obtain ⟨hlt, rfl⟩ := val hj
        obtain ⟨b, o, e1, e2, _⟩ := hf j hlt
        exact ⟨b, o, e1, e2⟩
      · obtain ⟨j, hj, rfl⟩ := List.mem_map.1 hu'
        have hlt := List.mem_range.1 hj
        obtain ⟨_, _, _, _, e3⟩ := hf j hlt
        exact (oneC_val (h1 _ _ (dm hlt).1 (dm hlt).2.1) e3).1
    · obtain ⟨hlt, rfl⟩ := val hj
      obtain ⟨_, _, _, _, e3⟩ := hf j hlt
      exact e3
  unfold genOf at h
  split at h
  · cases h
    refine core none 0 (fun j hj => by rw [Nat.zero_mul] at hj; omega) hy (fun _ => rfl)
  · rename_i m' n f
    split at h
    · rename_i hm
      cases h
      have hm' : m' = m := by simpa using hm
      subst hm'
      obtain ⟨ad, cap, rfl, g1, g2, g3⟩ := hy
      refine core ad cap (fun j hj => ?_) rfl (fun e => ?_)
      · obtain ⟨b, o, u, e1, _, e2, e3⟩ := g3 _ _ (dm hj).1 (dm hj).2.1
        exact ⟨b, o, u, e1, by rw [(dm hj).2.2] at e2; exact e2, e3⟩
      · rcases Nat.eq_zero_or_pos c with h0 | h0
        · exact h0
        · obtain ⟨b, o, u, e1, _⟩ := g3 0 0 h0 hm0; rw [e] at e1; cases e1
    · cases h
  · rename_i k m' off n
    obtain ⟨p, cap, hp, rfl, g1, g2, g3⟩ := hy
    split at h
    · rename_i m2 n2 f hk
      split at h
      · rename_i hm
        cases h
        simp only [Bool.and_eq_true, beq_iff_eq] at hm
        obtain ⟨rfl, rfl⟩ := hm
        obtain ⟨p', hp', hr⟩ := R.hr.obj k _ hk
        have e : p' = p := Option.some.inj (hp'.symm.trans hp)
        subst e
        obtain ⟨rfl, rfl⟩ := hv
        refine core (some ⟨p'.blk, p'.off + 0 * m2, none⟩) cap (fun j hj => ?_) rfl (fun e => by cases e)
        obtain ⟨u, e1, e2⟩ := RowAt.cell hr hj
        exact ⟨p'.blk, p'.off, u, by simp, e1, e2⟩
      · cases h
    · cases h
  · cases h

theorem appendD_sound (R : Rel P Γ N S ρ a w) {t : TypeId} {x y : Operand} {d : DV} {h' : DH} {vc : Prop} (hd : appendD P S t (opd S.fr x) (opd S.fr y) = some (d, h', vc)) (hv : vc) (o : Oper) {cl : Call} (ho : o.op = .call cl) (hc : cl.callee = .builtin .append)
    (ha : cl.args.toList = [x, y]) (ht : cl.argTypes.toList = [t, t]) : Does P (execOp a.eval o) w (Got P Γ N S.h ρ w false d h') := by
  have rx := opd_rep R x
  have ry := opd_rep R y
  unfold appendD at hd
  split at hd
  · rename_i kk e i z hk
    obtain ⟨hu, hi, hz, h0, hzs, hks, hq1, hq2⟩ := ekB_spec hk
    clear hq1 hq2
    split at hd
    · cases hd
    · rename_i hby
      have hby' : i.bytes ≤ 128 := by omega
      split at hd
      · have hs1 : i.size = 1 := hks.symm
        split at hd
        · rename_i ys vy hy
          split at hd
          · rename_i ex
            cases hd
            rw [ex] at rx
            have := append_nil_got (ob' := .ints ys) R hu hi hz hzs hby' (by rw [hs1]; exact intsOf_src R hu ry hy hv.1) hv.2.1 hv.2.2 (fun M ρ' w' p' O hr => by
              have hr' := hr
              rw [hs1, Nat.mul_one] at hr'
              refine RowAt.out hr' rfl fun j u hj hu' => ?_
              simp [hj] at hu'
              rw [← hu']; simp [hj]) false o ho hc ha ht rx rfl
            rw [hs1] at this
            exact this
          · rename_i k m off n ex
            rw [ex] at rx
            obtain ⟨p, cap, hp, hx, g1, g2, g3⟩ := rx
            split at hd
            · rename_i xs hkk
              split at hd
              · rename_i hm
                cases hd
                have hm' : m = 1 := by simpa using hm
                subst hm'
                obtain ⟨q1, ⟨rfl, rfl⟩, q3⟩ := hv
                obtain ⟨p', hp', hr⟩ := R.hr.obj k _ hkk
                have e : p' = p := Option.some.inj (hp'.symm.trans hp)
                subst e
                have := append_obj_got (ob' := .ints (xs ++ ys)) (n := xs.length) (cap := cap) (c := ys.length) R hu hi hz h0 hzs hby' hkk hp (Rw := fun j u => u = .int .i64 (xs.getD j 0)) (by rw [hs1, Nat.mul_one]; exact hr) g1 (by rw [hs1]; simpa using g3) (by rw [hs1]; exact intsOf_src R hu ry hy q1) q3
                  (fun M ρ' w' p' O hr => ints_appR hs1 hr) o ho hc ha ht (by simpa using hx) rfl
                rw [hs1] at this
                exact this
              · cases hd
            · cases hd
          · cases hd
        · cases hd
      · have hs1 : i.size = 1 := hks.symm
        split at hd
        · rename_i ys vy hy
          split at hd
          · rename_i ex
            cases hd
            rw [ex] at rx
            have := append_nil_got (ob' := .bools ys) R hu hi hz hzs hby' (by rw [hs1]; exact boolsOf_src R hu ry hy hv.1) hv.2.1 hv.2.2 (fun M ρ' w' p' O hr => by
              have hr' := hr
              rw [hs1, Nat.mul_one] at hr'
              refine RowAt.out hr' rfl fun j u hj hu' => ?_
              simp [hj] at hu'
              rw [← hu']; simp [hj]) false o ho hc ha ht rx rfl
            rw [hs1] at this
            exact this
          · rename_i k m off n ex
            rw [ex] at rx
            obtain ⟨p, cap, hp, hx, g1, g2, g3⟩ := rx
            split at hd
            · rename_i xs hkk
              split at hd
              · rename_i hm
                cases hd
                have hm' : m = 1 := by simpa using hm
                subst hm'
                obtain ⟨q1, ⟨rfl, rfl⟩, q3⟩ := hv
                obtain ⟨p', hp', hr⟩ := R.hr.obj k _ hkk
                have e : p' = p := Option.some.inj (hp'.symm.trans hp)
                subst e
                have := append_obj_got (ob' := .bools (xs ++ ys)) (n := xs.length) (cap := cap) (c := ys.length) R hu hi hz h0 hzs hby' hkk hp (Rw := fun j u => u = .bool (xs.getD j false)) (by rw [hs1, Nat.mul_one]; exact hr) g1 (by rw [hs1]; simpa using g3) (by rw [hs1]; exact boolsOf_src R hu ry hy q1) q3
                  (fun M ρ' w' p' O hr => bools_appR hs1 hr) o ho hc ha ht (by simpa using hx) rfl
                rw [hs1] at this
                exact this
              · cases hd
            · cases hd
          · cases hd
        · cases hd
      · rename_i m
        have hsm : i.size = m := hks.symm
        have hm0 : 0 < m := by omega
        split at hd
        · rename_i c g vy hy
          split at hd
          · rename_i ex
            cases hd
            rw [ex] at rx
            obtain ⟨news, hsrc, hnews⟩ := genOf_src R hu ry hm0 hy hv.1.1 hv.1.2
            have := append_nil_got (ob' := .arr m c g) R hu hi hz hzs hby' (by rw [hsm]; exact hsrc) hv.2.1 hv.2.2 (fun M ρ' w' p' O hr => by
              rw [hsm] at hr
              exact RowAt.out hr rfl fun j u hj hu' => RepV.out _ O.nil (hnews j u hu')) false o ho hc ha ht rx rfl
            rw [hsm] at this
            exact this
          · rename_i k m' off n ex
            rw [ex] at rx
            obtain ⟨p, cap, hp, hx, g1, g2, g3⟩ := rx
            split at hd
            · rename_i m2 n2 f hkk
              split at hd
              · rename_i hm
                cases hd
                simp only [Bool.and_eq_true, beq_iff_eq] at hm
                obtain ⟨rfl, rfl⟩ := hm
                obtain ⟨q1, ⟨rfl, rfl⟩, q3⟩ := hv
                obtain ⟨p', hp', hr⟩ := R.hr.obj k _ hkk
                have e : p' = p := Option.some.inj (hp'.symm.trans hp)
                subst e
                obtain ⟨news, hsrc, hnews⟩ := genOf_src R hu ry hm0 hy q1.1 q1.2
                have := append_obj_got (ob' := .arr m2 (n + c) (fun i j => if i < n then f i j else g (i - n) j)) (n := n) (cap := cap) (c := c) R hu hi hz h0 hzs hby' hkk hp (Rw := fun j u => RepV (MS N S.h ρ) w (f (j / m2) (j % m2)) [] u) (by rw [hsm]; exact hr) g1 (by rw [hsm]; simpa using g3) (by rw [hsm]; exact hsrc) q3
                  (fun M ρ' w' p' O hr => by
                    rw [hsm] at hr
                    refine RowAt.out hr rfl fun j u hj hu' => ?_
                    show RepV M w' (if j / m2 < n then f (j / m2) (j % m2) else g (j / m2 - n) (j % m2)) [] u
                    unfold appR at hu'
                    by_cases hlt : j < n * m2
                    · rw [if_pos hlt] at hu'
                      rw [if_pos (by rw [Nat.div_lt_iff_lt_mul hm0]; exact hlt)]
                      exact RepV.out _ O.nil hu'
                    · rw [if_neg hlt] at hu'
                      rw [if_neg (by rw [Nat.div_lt_iff_lt_mul hm0]; exact hlt)]
                      have h1 := hnews _ _ hu'
                      have e1 : (j - n * m2) / m2 = j / m2 - n := by rw [Nat.mul_comm n m2]; exact Nat.sub_mul_div ..
                      have e2 : (j - n * m2) % m2 = j % m2 := by
                        have hj2 : j = (j - n * m2) + n * m2 := by omega
                        rw [hj2, Nat.add_mul_mod_self_right, Nat.add_sub_cancel]
                      rw [e1, e2] at h1
                      exact RepV.out _ O.nil h1) o ho hc ha ht (by simpa using hx) rfl
                rw [hsm] at this
                exact this
              · cases hd
            · cases hd
          · cases hd
        · cases hd
  · cases hd

end
end Go.Proofs.YtekkngkphejfcaaDoor
