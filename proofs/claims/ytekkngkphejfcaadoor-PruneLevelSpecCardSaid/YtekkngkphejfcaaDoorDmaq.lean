/- Rows of maps: how they are made, how a map comes into one. -/
import Derived.Test.YtekkngkphejfcaaDoorDmap
namespace Go.Proofs.YtekkngkphejfcaaDoor
open Go.RowKit

/-- Of how many integers the keys are of the maps of a row of such a type. -/
def mslT (P : Program) (t : TypeId) : Option (Nat × TypeId × TypeInfo) := match P.underlying t with
  | some (.slice e) => match mapT P e with
    | some (n, _) => match P.info? e with
      | some i => match i.zero with
        | some (.map none) => if i.size = 1 ∧ i.bytes ≤ 128 then some (n, e, i) else none
        | _ => none
      | none => none
    | none => none
  | _ => none
theorem mslT_spec {P : Program} {t e : TypeId} {n : Nat} {i : TypeInfo} (h : mslT P t = some (n, e, i)) : P.underlying t = some (.slice e) ∧ P.info? e = some i ∧ i.zero = some (.map none) ∧ i.size = 1 ∧ i.bytes ≤ 128 := by
  unfold mslT at h
  split at h
  · rename_i e' hu
    split at h
    · split at h
      · rename_i i' hi
        split at h
        · rename_i hz
          split at h
          · rename_i hc
            cases h
            exact ⟨hu, hi, hz, hc.1, hc.2⟩
          · cases h
        · cases h
      · cases h
    · cases h
  · cases h
section
variable {P : Program} {Γ : Glo} {N : Nat → Prop} {S : St} {ρ : List Place} {a : Act} {w : World} {h : DH}
theorem replicate_get {α : Type} {n j : Nat} {x y : α} (h : (List.replicate n x)[j]? = some y) : x = y := by
  rw [List.getElem?_replicate] at h
  split at h
  · exact Option.some.inj h
  · cases h
theorem makeMaps_got (R : Rel P Γ N S ρ a w) {t e : TypeId} {x y : Operand} {n : Nat} {i : TypeInfo} {kx ky : IntKind} {m : Int} (hT : mslT P t = some (n, e, i)) (hx : opd S.fr x = .int kx m) (hy : opd S.fr y = .int ky m)
    (hn : 0 ≤ m ∧ m ≤ 1000000000000) (o : Oper) (ho : o.op = .makeSlice t x y) (ext : Bool) :
    Does P (execOp a.eval o) w (Got P Γ N S.h ρ w ext (.msl S.h.length 1 0 m.toNat) (S.h ++ [some (.mo (.sets n (List.replicate m.toNat none) none))])) := by
  obtain ⟨hu, hi, hz, hs, hby⟩ := mslT_spec hT
  have hn1 := hn.1
  have hn2 := hn.2
  have rx := opd_rep R x
  have ry := opd_rep R y
  rw [hx] at rx
  rw [hy] at ry
  have hcs : (madeCells (Value.map none).cells (m.toNat * i.size)).size = m.toNat := by rw [size_madeCells, hs, Nat.mul_one]
  have hcell : ∀ j, j < m.toNat → (madeCells (Value.map none).cells (m.toNat * i.size))[j]? = some (Value.map none) := fun j hj => by
    simp [madeCells, hs, hj, Value.cells, Nat.mod_one]
  refine Does.value (s := Instr.makeSlice t (a.eval x) (a.eval y)) (by unfold execOp; rw [ho]) (v := .slice (some ⟨w.heap.size, 0, none⟩) m.toNat m.toNat) (w' := w.alloc (.cells (madeCells (Value.map none).cells (m.toNat * i.size)) e)) ?_ ?_
  · rw [show a.eval x = _ from rx, show a.eval y = _ from ry]
    refine run_make w t e i _ hu hi hz kx ky m m hn1 (Int.le_refl _) ?_ (by omega)
    have : (i.bytes : Int) * m ≤ 128 * 1000000000000 := Int.mul_le_mul (by omega) hn2 hn1 (by omega)
    omega
  · generalize hC : madeCells (Value.map none).cells (m.toNat * i.size) = cs at hcs hcell ⊢
    refine got_newO (ob := .cells cs e) (o := .mo (.sets n (List.replicate m.toNat none) none)) (d := .msl S.h.length 1 0 m.toNat) (pl := ⟨w.heap.size, 0, cs.size, .tuple (Array.replicate m.toNat (Value.map none)), fun b => b = w.heap.size⟩) R.hr rfl rfl (fun M ρ' => ?_) (fun M ρ' hp => ⟨_, m.toNat, hp, by simp, Nat.le_refl _, by unfold LB; omega, by simp [hcs]⟩) ext
    refine ⟨Array.replicate m.toNat (Value.map none), rfl, by simp, ⟨cs, e, heap_alloc_new w _, by simp [hcs], Nat.le_refl _, fun j hj => ?_⟩, rfl, fun j l hj => ?_, fun j hj => ?_, fun b hb => .inl hb, fun i j b h1 h2 => ?_⟩
    · rw [List.length_replicate] at hj
      show cs[0 + j]? = _
      rw [Nat.zero_add, hcell j hj, Array.getElem?_replicate, if_pos hj]
    · have := replicate_get hj
      cases this
    · have hj' := (List.getElem?_eq_some_iff.1 hj).1
      rw [List.length_replicate] at hj'
      rw [Array.getElem?_replicate, if_pos hj']
    · rw [Array.getElem?_replicate] at h1
      split at h1 <;> cases h1

/-- Two objects go over into one. -/
theorem HRel.merge (H : HRel P Γ N h ρ w) {w' : World} {k j : Nat} {o oj o' : DO} {p q p' : Place} (hkj : k ≠ j) (hk : h[k]? = some (some o)) (hp : ρ[k]? = some p) (hj : h[j]? = some (some oj)) (hq : ρ[j]? = some q) (hu : Upd p.foot w w') (hf : ∀ b, p'.foot b → (p.foot b ∨ q.foot b) ∧ Lies w' b)
    (ho : ObjRep P (MS N ((h.set k none).set j none ++ [some o']) (ρ ++ [p'])) w' (ρ ++ [p']) p' o') :
    HRel P Γ N ((h.set k none).set j none ++ [some o']) (ρ ++ [p']) w' ∧ Step h ρ w ((h.set k none).set j none ++ [some o']) (ρ ++ [p']) w' := by
  have hlen : ((h.set k none).set j none).length = h.length := by simp
  have hM : ∀ b, p.foot b → MO h ρ b := fun b hb => ⟨k, o, p, hk, hp, hb⟩
  have hMq : ∀ b, q.foot b → MO h ρ b := fun b hb => ⟨j, oj, q, hj, hq, hb⟩
  have get2 : ∀ {i : Nat} {o1 : DO}, ((h.set k none).set j none)[i]? = some (some o1) → i ≠ k ∧ i ≠ j ∧ h[i]? = some (some o1) := fun {i o1} hi => by
    obtain ⟨e1, e2⟩ := get_kill hi
    obtain ⟨e3, e4⟩ := get_kill e2
    exact ⟨e3, e1, e4⟩
  have inv : ∀ {i : Nat} {o1 : DO} {p1 : Place}, ((h.set k none).set j none ++ [some o'])[i]? = some (some o1) → (ρ ++ [p'])[i]? = some p1 → (i ≠ k ∧ i ≠ j ∧ i < h.length ∧ h[i]? = some (some o1) ∧ ρ[i]? = some p1) ∨ (i = h.length ∧ o1 = o' ∧ p1 = p') := by
    intro i o1 p1 h1 h2
    rcases get_snoc h1 with ⟨hl, h1⟩ | ⟨hl, h1⟩
    · rw [hlen] at hl
      rcases get_snoc h2 with ⟨_, h2⟩ | ⟨hl2, _⟩
      · obtain ⟨e1, e2, e3⟩ := get2 h1
        exact .inl ⟨e1, e2, hl, e3, h2⟩
      · rw [H.len] at hl2; omega
    · rw [hlen] at hl
      rcases get_snoc h2 with ⟨hl2, _⟩ | ⟨_, h2⟩
      · rw [H.len] at hl2; omega
      · cases h1; exact .inr ⟨hl, rfl, h2.symm⟩
  have grow : ∀ b, MO ((h.set k none).set j none ++ [some o']) (ρ ++ [p']) b → MO h ρ b := by
    rintro b ⟨i, o1, p1, h1, h2, h3⟩
    rcases inv h1 h2 with ⟨_, _, _, g1, g2⟩ | ⟨_, _, rfl⟩
    · exact ⟨i, o1, p1, g1, g2, h3⟩
    · exact (hf b h3).1.elim (hM b) (hMq b)
  have O : Outl (MS N h ρ) w ρ (MS N ((h.set k none).set j none ++ [some o']) (ρ ++ [p'])) w' (ρ ++ [p']) :=
    ⟨fun b hb hm _ => hu.block b hb fun hx => hm (.inr (hM b hx)), fun b hb => .inl (hb.imp id (grow b)), fun i q hi => get_snoc_left hi⟩
  refine ⟨⟨by simp [H.len], fun i o1 hi => ?_, fun i o1 p1 b h1 h2 h3 => ?_, fun i i' o1 o2 p1 p2 b hne h1 h2 h3 h4 h5 h6 => ?_, fun b hb => ⟨Nat.lt_of_lt_of_le (H.nlt b hb).1 hu.size, (H.nlt b hb).2⟩, Γ.st _ _ H.gi (hu.mono fun b _ hb => (H.cel k o p b hk hp hb).1)⟩, ⟨hu.mono fun b _ hb => hM b hb, fun b hb => .inl (grow b hb)⟩⟩
  · rcases get_snoc hi with ⟨hl, hi⟩ | ⟨hl, hi⟩
    · obtain ⟨e1, e2, e3⟩ := get2 hi
      obtain ⟨p1, hp1, hr⟩ := H.obj i o1 e3
      exact ⟨p1, get_snoc_left hp1, hr.out O hu (fun b hb => .inr (hM b hb)) fun b _ h1 h2 => H.dis i k o1 o p1 p b e1 e3 hk hp1 hp h1 h2⟩
    · cases hi
      exact ⟨p', by rw [hl, hlen, ← H.len]; simp, ho⟩
  · rcases inv h1 h2 with ⟨hne, _, _, g1, g2⟩ | ⟨_, _, rfl⟩
    · obtain ⟨e1, e2, c, t, z, e3⟩ := H.cel i o1 p1 b g1 g2 h3
      exact ⟨e1, e2, c, t, z, (hu.block b (Array.getElem?_eq_some_iff.1 e3).1 fun hx => H.dis i k o1 o p1 p b hne g1 hk g2 hp h3 hx).trans e3⟩
    · obtain ⟨e1, e2⟩ := hf b h3
      rcases e1 with e1 | e1
      · obtain ⟨q1, q2, _⟩ := H.cel k o p b hk hp e1
        exact ⟨q1, q2, e2⟩
      · obtain ⟨q1, q2, _⟩ := H.cel j oj q b hj hq e1
        exact ⟨q1, q2, e2⟩
  · have key : ∀ {i o1 p1}, i ≠ k → i ≠ j → h[i]? = some (some o1) → ρ[i]? = some p1 → p1.foot b → p'.foot b → False := fun {i o1 p1} hne hne2 g1 g2 g3 g4 => by
      rcases (hf b g4).1 with e1 | e1
      · exact H.dis i k o1 o p1 p b hne g1 hk g2 hp g3 e1
      · exact H.dis i j o1 oj p1 q b hne2 g1 hj g2 hq g3 e1
    rcases inv h1 h3 with ⟨hne1, hne2, _, g1, g2⟩ | ⟨e1, _, rfl⟩
    · rcases inv h2 h4 with ⟨hne3, _, _, g3, g4⟩ | ⟨e2, _, rfl⟩
      · exact H.dis i i' o1 o2 p1 p2 b hne g1 g3 g2 g4 h5 h6
      · exact key hne1 hne2 g1 g2 h5 h6
    · rcases inv h2 h4 with ⟨hne1, hne2, _, g1, g2⟩ | ⟨e2, _, rfl⟩
      · exact key hne1 hne2 g1 g2 h6 h5
      · exact hne (e1.trans e2.symm)

/-- References to an object go over to another in the same place. -/
def mvD (k k' : Nat) : DV → DV
  | .msl k1 m o n => if k1 = k then .msl k' m o n else .msl k1 m o n
  | d => d
/-- A map comes into a row. -/
def storeM (P : Program) (S : St) (o : Oper) : Option (St × List Prop) := match o.op with
  | .store t x y => match o.dst with
    | none => match opd S.fr x with
      | .mp k 1 i 0 => match opd S.fr y with
        | .it j => match S.h[k]? with
          | some (some (.mo (.sets n ls none))) => match S.h[j]? with
            | some (some (.mo (.set n' l))) => if n' = n ∧ (P.info? t).any (fun i => i.size == 1) = true then some (⟨S.fr.map (mvD k S.h.length), (S.h.set k none).set j none ++ [some (.mo (.sets n (ls.set i (some l)) none))]⟩, [i < ls.length]) else none
            | _ => none
          | _ => none
        | _ => none
      | _ => none
    | some _ => none
  | _ => none

theorem SetsAt.of_map {p : Place} {n : Nat} {ls : List (Option KS)} {lk : Option (Nat × Nat × Array MapEntry × Nat)} {vs : Array Value} (hS : SetsAt w p n ls lk vs) {i b : Nat} (h : vs[i]? = some (Value.map (some b))) : ∃ l, ls[i]? = some (some l) ∧ p.foot b ∧ b ≠ p.blk ∧ ∃ es clock, MapAt w b n l es clock := by
  have hi : i < ls.length := by rw [← hS.size]; exact (Array.getElem?_eq_some_iff.1 h).1
  cases hl : ls[i] with
  | none =>
    have := hS.nil i (by rw [List.getElem?_eq_getElem hi, hl])
    rw [this] at h; cases h
  | some l =>
    have hl' : ls[i]? = some (some l) := by rw [List.getElem?_eq_getElem hi, hl]
    obtain ⟨b', g1, g2, g3, es, clock, g4, _⟩ := hS.has i l hl'
    have : b' = b := by rw [g1] at h; cases h; rfl
    subst this
    exact ⟨l, hl', g3, g2, es, clock, g4⟩
theorem storeM_sound (R : Rel P Γ N S ρ a w) {o : Oper} {S' : St} {vs : List Prop} (h : storeM P S o = some (S', vs)) (hv : allP vs) :
    Does P (execOp a.eval o) w (fun v w' => (∃ ρ', Rel P Γ N S' ρ' (a.put o.dst v) w' ∧ StepP S.h ρ w S'.h ρ' w') ∧ ∃ k i p t x y, o.op = .store t x y ∧ opd S.fr x = .mp k 1 i 0 ∧ ρ[k]? = some p ∧ Upd p.foot w w') := by
  unfold storeM at h
  split at h
  case h_2 => cases h
  rename_i t x y ho
  split at h
  case h_2 => cases h
  rename_i hdst
  split at h
  case h_2 => cases h
  rename_i k i hX
  split at h
  case h_2 => cases h
  rename_i j hY
  split at h
  case h_2 => cases h
  rename_i n ls hK
  split at h
  case h_2 => cases h
  rename_i n' l hJ
  split at h
  case isFalse => cases h
  rename_i hc
  cases h
  obtain ⟨hnn, hsz⟩ := hc
  subst hnn
  have hi : i < ls.length := hv.1
  have rx := opd_rep R x
  have ry := opd_rep R y
  rw [hX] at rx
  rw [hY] at ry
  obtain ⟨p, hp, ex⟩ := rx
  obtain ⟨q, es, clock, hq, ey, hqf, hqv, hA⟩ := set_at R hJ ry
  obtain ⟨p', hp', vs0, hS⟩ := R.hr.obj k _ hK
  have : p' = p := Option.some.inj (hp'.symm.trans hp)
  subst this
  have hkj : k ≠ j := fun e => by subst e; rw [hK] at hJ; cases hJ
  obtain ⟨cs, ty, hb, hl1, hl2, hcell⟩ := hS.row
  cases hti : P.info? t with
  | none => rw [hti] at hsz; cases hsz
  | some ti =>
  rw [hti] at hsz
  have hsz' : ti.size = 1 := by simpa using hsz
  have hisz : i < vs0.size := by rw [hS.size]; exact hi
  have hqn : ∀ b, p'.foot b → b ≠ q.blk := fun b hb e => R.hr.dis k j _ _ p' q b hkj hK hJ hp hq hb (by rw [hqf]; exact e)
  have ex' : a.eval x = .pointer (some ⟨p'.blk, p'.off + i, none⟩) := by rw [ex]; simp
  have hcl : w.cell? ⟨p'.blk, p'.off + i, none⟩ = some vs0[i] := by
    unfold World.cell?
    simp only [hb]
    rw [hcell i hi, Array.getElem?_eq_getElem hisz]
    rfl
  have hfz : ∀ jj, w.frozen? ⟨p'.blk, jj, none⟩ = false := fun jj => by unfold World.frozen?; simp [hb]
  have hU : Upd p'.foot w (w.setCells p'.blk (p'.off + i) (a.eval y).cells.toList) := (upd_setCells _ _ _ _).mono fun b _ e => by rw [show b = p'.blk from e]; exact hS.blk
  refine Does.skip (s := Instr.storeAt t (a.eval x) (a.eval y)) (by unfold execOp; rw [ho]) (w' := w.setCells p'.blk (p'.off + i) (a.eval y).cells.toList) ?_ ?_
  · rw [ex']
    refine run_storeAt' hti (by rw [ey, hsz']; rfl) (fun jj hjj => ?_) hfz (fun u hu => ?_)
    · rw [ey] at hjj
      have : jj = 0 := by simpa [Value.cells] using hjj
      subst this
      rw [Nat.add_zero, hcl]; rfl
    · rw [ey] at hu
      have : u = .map (some q.blk) := by simpa [Value.cells] using hu
      subst this; rfl
  · rw [hdst]
    rw [ey] at hU ⊢
    have eC : (Value.map (some q.blk)).cells.toList = [Value.map (some q.blk)] := rfl
    rw [eC] at hU ⊢
    obtain ⟨cs', e1, e2, e3⟩ := heap_setCells p'.blk ty (0, 0) [Value.map (some q.blk)] (p'.off + i) w cs hb (by simp; omega)
    generalize hW : w.setCells p'.blk (p'.off + i) [Value.map (some q.blk)] = W at hU e1 ⊢
    have at_ : ∀ {b ob}, b ≠ p'.blk → w.heap[b]? = some ob → W.heap[b]? = some ob := fun {b ob} hne hob => by
      rw [← hob, ← hW]
      exact (upd_setCells p'.blk [Value.map (some q.blk)] (p'.off + i) w).block b (Array.getElem?_eq_some_iff.1 hob).1 hne
    have qne : q.blk ≠ p'.blk := fun e => hqn p'.blk hS.blk e.symm
    let vs' := vs0.setIfInBounds i (Value.map (some q.blk))
    have hvs : ∀ m : Nat, vs'[m]? = if i = m then some (Value.map (some q.blk)) else vs0[m]? := fun m => by
      show (vs0.setIfInBounds i _)[m]? = _
      rw [Array.getElem?_setIfInBounds]
      by_cases e : i = m
      · rw [if_pos e, if_pos e, if_pos hisz]
      · rw [if_neg e, if_neg e]
    let p2 : Place := ⟨p'.blk, p'.off, p'.room, .tuple vs', fun b => b = p'.blk ∨ ∃ m : Nat, vs'[m]? = some (Value.map (some b))⟩
    have lsg : ∀ {m : Nat} {z : Option KS}, (ls.set i (some l))[m]? = some z → (m = i ∧ z = some l) ∨ (m ≠ i ∧ ls[m]? = some z) := fun {m z} hm => by
      rw [List.getElem?_set] at hm
      by_cases e : i = m
      · subst e; simp [hi] at hm; exact .inl ⟨rfl, hm.symm⟩
      · rw [if_neg e] at hm; exact .inr ⟨Ne.symm e, hm⟩
    have SA : SetsAt W p2 n' (ls.set i (some l)) none vs' := by
      refine ⟨rfl, by simp [vs', hS.size], ⟨cs', ty, e1, by simpa [e2] using hl1, by rw [e2]; exact hl2, fun m hm => ?_⟩, .inl rfl, fun m l1 hm => ?_, fun m hm => ?_, fun b hb => ?_, fun m m' b h1 h2 => ?_⟩
      · rw [List.length_set] at hm
        show cs'[p'.off + m]? = vs'[m]?
        rw [e3, hvs]
        by_cases e : i = m
        · subst e
          rw [if_pos (by simp), if_pos rfl]
          simp
        · rw [if_neg (by simp; omega), if_neg e]
          exact hcell m hm
      · rcases lsg hm with ⟨rfl, e⟩ | ⟨hne, hm⟩
        · cases e
          refine ⟨q.blk, by rw [hvs, if_pos rfl], qne, .inr ⟨m, by rw [hvs, if_pos rfl]⟩, es, clock, { hA with blk := at_ qne hA.blk }, fun x hx => by cases hx⟩
        · obtain ⟨b, k1, k2, k3, es1, c1, k4, _⟩ := hS.has m l1 hm
          exact ⟨b, by rw [hvs, if_neg (Ne.symm hne)]; exact k1, k2, .inr ⟨m, by rw [hvs, if_neg (Ne.symm hne)]; exact k1⟩, es1, c1, { k4 with blk := at_ k2 k4.blk }, fun x hx => by cases hx⟩
      · rcases lsg hm with ⟨rfl, e⟩ | ⟨hne, hm⟩
        · cases e
        · rw [hvs, if_neg (Ne.symm hne)]; exact hS.nil m hm
      · rcases hb with hb | ⟨m, hm⟩
        · exact .inl hb
        · refine .inr ?_
          have hm0 := hm
          rw [hvs] at hm
          by_cases e : i = m
          · subst e
            exact ⟨i, l, by simp [hi], hm0⟩
          · rw [if_neg e] at hm
            obtain ⟨l1, g1, _⟩ := hS.of_map hm
            exact ⟨m, l1, by rw [List.getElem?_set, if_neg e]; exact g1, hm0⟩
      · rw [hvs] at h1 h2
        by_cases c1 : i = m
        · by_cases c2 : i = m'
          · omega
          · rw [if_pos c1] at h1
            rw [if_neg c2] at h2
            cases h1
            obtain ⟨_, _, g2, _⟩ := hS.of_map h2
            exact absurd rfl (hqn _ g2)
        · rw [if_neg c1] at h1
          by_cases c2 : i = m'
          · rw [if_pos c2] at h2
            cases h2
            obtain ⟨_, _, g2, _⟩ := hS.of_map h1
            exact absurd rfl (hqn _ g2)
          · rw [if_neg c2] at h2
            exact hS.inj m m' b h1 h2
    have hfoot : ∀ b, p2.foot b → (p'.foot b ∨ q.foot b) ∧ Lies W b := fun b hb => by
      refine ⟨?_, SA.lies hb⟩
      rcases hb with hb | ⟨m, hm⟩
      · exact .inl (by rw [hb]; exact hS.blk)
      · rw [hvs] at hm
        by_cases e : i = m
        · rw [if_pos e] at hm
          cases hm
          exact .inr (by rw [hqf])
        · rw [if_neg e] at hm
          exact .inl (hS.of_map hm).choose_spec.2.1
    obtain ⟨g1, g2⟩ := R.hr.merge (o' := .mo (.sets n' (ls.set i (some l)) none)) (p' := p2) hkj hK hp hJ hq hU hfoot ⟨vs', SA⟩
    have O : Outl (MS N S.h ρ) w ρ (MS N ((S.h.set k none).set j none ++ [some (.mo (.sets n' (ls.set i (some l)) none))]) (ρ ++ [p2])) W (ρ ++ [p2]) :=
      ⟨fun b hb hm _ => hU.block b hb fun hx => hm (.inr ⟨k, _, p', hK, hp, hx⟩), fun b hb => hb.elim (fun h => .inl (.inl h)) (fun h => (g2.grow b h).imp .inr id), fun k q hk => get_snoc_left hk⟩
    refine ⟨⟨ρ ++ [p2], ⟨g1, by simp [R.fr.1, Act.put], fun m hm => ?_⟩, g2, fun k q hk => get_snoc_left hk⟩, k, i, p', t, x, y, ho, hX, hp, hU⟩
    have hm' : m < S.fr.length := by simpa using hm
    have e : (S.fr.map (mvD k S.h.length)).getD m .any = mvD k S.h.length (S.fr.getD m .any) := by simp [hm']
    show RepV _ W ((S.fr.map (mvD k S.h.length)).getD m .any) _ _
    rw [e]
    have r0 := R.fr.2 m hm'
    cases hd : S.fr.getD m .any with
    | msl k1 m1 o1 n1 =>
      rw [hd] at r0
      by_cases hc : k1 = k
      · have e2 : mvD k S.h.length (.msl k1 m1 o1 n1) = .msl S.h.length m1 o1 n1 := by simp only [mvD, if_pos hc]
        rw [e2]
        rw [hc] at r0
        obtain ⟨q0, cap, hq0, hu0, u1, u2, u3⟩ := r0
        have eq0 : q0 = p' := Option.some.inj (hq0.symm.trans hp)
        subst eq0
        exact ⟨p2, cap, by rw [← R.hr.len]; simp, hu0, u1, u2, u3⟩
      · have e2 : mvD k S.h.length (.msl k1 m1 o1 n1) = .msl k1 m1 o1 n1 := by simp only [mvD, if_neg hc]
        rw [e2]
        exact RepV.out _ O r0
    | _ => rw [hd] at r0; exact RepV.out _ O r0
end
end Go.Proofs.YtekkngkphejfcaaDoor
