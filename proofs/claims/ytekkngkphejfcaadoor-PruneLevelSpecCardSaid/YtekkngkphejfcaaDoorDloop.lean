/- Loops over maps: what is held fast, what comes next. -/
import Derived.Test.YtekkngkphejfcaaDoorDhint
namespace Go.Proofs.YtekkngkphejfcaaDoor
open Go.RowKit

/-- A map's block, its entries, its clock. -/
abbrev LK := Nat × Array MapEntry × Nat
theorem lkOff_none {i : Nat} : lkOff none i := fun _ h => by cases h
theorem lkOff_some {i j : Nat} {g : LK} (h : i ≠ j) : lkOff (some (i, g)) j := fun y e => by cases e; exact h
/-- Whichever comes next: the same is to come of it. -/
def onNext {R : Type} [DecidableEq R] (rem : KS) (a : Option R) (f : List Int → Option R) : Option R := match rem with
  | [] => a
  | x :: r => match f x with
    | none => none
    | some v => if r.all (fun y => decide (f y = some v)) then some v else none
theorem onNext_spec {R : Type} [DecidableEq R] {rem : KS} {a : Option R} {f : List Int → Option R} {r : R} (h : onNext rem a f = some r) : (rem = [] → a = some r) ∧ ∀ y ∈ rem, f y = some r := by
  cases rem with
  | nil => exact ⟨fun _ => h, fun y hy => absurd hy List.not_mem_nil⟩
  | cons x l =>
    refine ⟨fun e => absurd e (List.cons_ne_nil x l), ?_⟩
    unfold onNext at h
    simp only at h
    cases hx : f x with
    | none => rw [hx] at h; cases h
    | some v =>
      rw [hx] at h
      simp only at h
      split at h
      · rename_i hc
        cases h
        intro y hy
        rcases List.mem_cons.1 hy with rfl | hy
        · exact hx
        · exact of_decide_eq_true (List.all_eq_true.1 hc y hy)
      · cases h
theorem onNext_nil {R : Type} [DecidableEq R] {a : Option R} {f : List Int → Option R} : onNext [] a f = a := rfl
theorem onNext_of {R : Type} [DecidableEq R] {rem : KS} {a : Option R} {f : List Int → Option R} {r : R} (hn : rem ≠ []) (h : ∀ y ∈ rem, f y = some r) : onNext rem a f = some r := by
  cases rem with
  | nil => exact absurd rfl hn
  | cons x l =>
    unfold onNext
    simp only [h x (by simp)]
    rw [if_pos]
    exact List.all_eq_true.2 fun y hy => decide_eq_true (h y (by simp [hy]))

theorem run_next_at {P : Program} {w : World} {r bm since c0 clock : Nat} {seen : Array Nat} {es : Array MapEntry} (hr : w.heap[r]? = some (.mapIter (some bm) since seen c0)) (hb : w.heap[bm]? = some (.map es clock)) (hold : ∀ x ∈ es.toList, x.born < since) (hsc : since ≤ c0) (ty : TypeId) :
    ((leftOf es seen).size = 0 ∧ (Instr.next (.pointer (some ⟨r, 0, none⟩)) false ty).run P w = .ok (.tuple #[.bool false]) w) ∨
    ∃ e ∈ (leftOf es seen).toList, ∃ w1 : World, (w1 = w ∨ w1 = w.drew) ∧ (Instr.next (.pointer (some ⟨r, 0, none⟩)) false ty).run P w = .ok (.tuple #[.bool true, e.key, e.val]) { w1 with heap := w1.heap.setIfInBounds r (.mapIter (some bm) since (seen.push e.born) clock) } := by
  simp only [Instr.next, getObj, Sem.run_bind, Sem.run, hr, hb, Result.andThen, next_test_false seen es since c0 hold hsc, Bool.false_eq_true, if_false]
  unfold leftOf
  have hmem : ∀ x ∈ (Array.filter (fun e => !seen.contains e.born) es).toList, x.born < since := fun x hx => hold x (by simp at hx ⊢; exact hx.1)
  generalize Array.filter (fun e => !seen.contains e.born) es = L at hmem ⊢
  have e1 : L.filter (fun x => decide (x.born < since)) = L := Array.filter_eq_self.2 (fun x hx => by simpa using hmem x (by simpa using hx))
  have e2 : L.filter (fun x => decide (x.born ≥ since)) = #[] := by
    rw [Array.filter_eq_empty_iff]
    intro x hx
    have := hmem x (by simpa using hx)
    simp
    omega
  simp only [e1, e2, Array.append_empty]
  by_cases h0 : L.size = 0
  · left
    have : L = #[] := Array.eq_empty_of_size_eq_zero h0
    subst this
    refine ⟨rfl, ?_⟩
    simp [choose, Sem.run, Question.forced]
  · right
    have hne : L.isEmpty = false := by simp [Array.isEmpty, h0]
    simp only [hne, Bool.false_eq_true, if_false, Array.empty_append, Array.size_map]
    have hch : ∃ (j : Nat) (w1 : World), j < L.size ∧ (w1 = w ∨ w1 = w.drew) ∧ (choose (Question.mapNext L.size)).run P w = .ok j w1 := by
      by_cases hf : L.size ≤ 1
      · exact ⟨0, w, by omega, .inl rfl, by simp [choose, Sem.run, Question.forced, hf]⟩
      · exact ⟨_, w.drew, Nat.mod_lt _ (by omega), .inr rfl, by
          simp only [choose, Sem.run, Question.forced, decide_eq_true_eq, hf, if_false, Question.cut]
          rfl⟩
    obtain ⟨j, w1, hj, hal, hrun⟩ := hch
    have hr1 : w1.heap[r]? = some (.mapIter (some bm) since seen c0) := by rcases hal with rfl | rfl <;> exact hr
    refine ⟨L[j], by simp, w1, hal, ?_⟩
    simp only [hrun, Array.getElem?_map, Array.getElem?_eq_getElem hj, Option.map_some, Sem.run_bind, setObj, Sem.run, hr1, Result.andThen]
    rfl

section
variable {P : Program} {Γ : Glo} {N : Nat → Prop} {S : St} {ρ : List Place} {a : Act} {w : World} {F : Fence} {B : Option Nat} {L : Nat} {Y : Yard P Γ L} {Q : QY P Γ L}

theorem upd_none {X X' : Nat → Prop} {w : World} : Upd X w w := Upd.refl _ _
/-- An object of maps is read otherwise. -/
theorem Rel.setMo (R : Rel P Γ N S ρ a w) {k : Nat} {x x' : MX} {p : Place} (hk : S.h[k]? = some (some (.mo x))) (hp : ρ[k]? = some p) (hO : MXRep w p x') (hc : ∀ b, p.foot b → Lies w b) :
    Rel P Γ N ⟨S.fr, S.h.set k (some (.mo x'))⟩ ρ a w ∧ Step S.h ρ w (S.h.set k (some (.mo x'))) ρ w :=
  ⟨⟨R.hr.write hk hp (Upd.refl _ _) hc hO, R.fr.out (Outl.write trivial hk hp (Upd.refl p.foot w))⟩, Step.write hk hp (Upd.refl _ _)⟩
theorem SetsAt.relock {p : Place} {n : Nat} {ls : List (Option KS)} {vs : Array Value} (hS : SetsAt w p n ls none vs) {i : Nat} (hi : (ls.getD i none).isSome = true) : ∃ g : LK, SetsAt w p n ls (some (i, g)) vs := by
  obtain ⟨mb, g1, g2, g3, es, clock, g4, _⟩ := hS.has i _ (getD_isSome hi)
  refine ⟨(mb, es, clock), { hS with has := fun j l hl => ?_ }⟩
  by_cases e : j = i
  · subst e
    have : l = (ls.getD j none).getD [] := by have := getD_isSome hi; rw [hl] at this; exact Option.some.inj (Option.some.inj this)
    subst this
    exact ⟨mb, g1, g2, g3, es, clock, g4, fun x hx _ => by cases hx; rfl⟩
  · obtain ⟨b, k1, k2, k3, es1, c1, k4, _⟩ := hS.has j l hl
    exact ⟨b, k1, k2, k3, es1, c1, k4, fun x hx hj => by cases hx; exact absurd hj.symm e⟩
theorem SetsAt.unlock {p : Place} {n : Nat} {ls : List (Option KS)} {lk : Option (Nat × LK)} {vs : Array Value} (hS : SetsAt w p n ls lk vs) : SetsAt w p n ls none vs :=
  { hS with has := fun j l hl => let ⟨b, k1, k2, k3, es1, c1, k4, _⟩ := hS.has j l hl; ⟨b, k1, k2, k3, es1, c1, k4, fun x hx => by cases hx⟩ }
/-- An element of a row of maps is held fast. -/
theorem Tr.lock {c : Code} {j i n : Nat} {ls : List (Option KS)} (hk : S.h[j]? = some (some (.mo (.sets n ls none)))) (hi : (ls.getD i none).isSome = true) (H : ∀ g : LK, Tr P Γ F B L Y c ⟨S.fr, S.h.set j (some (.mo (.sets n ls (some (i, g)))))⟩ Q) : Tr P Γ F B L Y c S Q := fun N ρ a w R y m b => by
  obtain ⟨p, hp, vs, hS⟩ := R.hr.obj j _ hk
  obtain ⟨g, hS'⟩ := hS.relock hi
  obtain ⟨R', st⟩ := R.setMo hk hp (x' := .sets n ls (some (i, g))) ⟨vs, hS'⟩ fun b hb => hS.lies hb
  exact H g N ρ a w R' (Y.st y R.hr R'.hr st (Kept.refl _ _)) m b
def isC : List KI → Bool
  | .code _ :: _ => true
  | _ => false
theorem TrK.lock {K : List KI} {fr : List DV} {h : DH} (j i n : Nat) {ls : List (Option KS)} (hk : h[j]? = some (some (.mo (.sets n ls none)))) (hi : (ls.getD i none).isSome = true) (hK : isC K = true) (h' : LK → DH) (he : h' = fun g => h.set j (some (.mo (.sets n ls (some (i, g)))))) (H : ∀ g : LK, TrG P Γ F B L Y Q K ⟨fr, h' g⟩) : TrG P Γ F B L Y Q K ⟨fr, h⟩ := by
  subst he
  unfold isC at hK
  split at hK
  · exact Tr.lock (S := ⟨fr, h⟩) hk hi H
  · cases hK

/-- What comes next. -/
theorem next_view (R : Rel P Γ N S ρ a w) {m j n n' i : Nat} {ls : List (Option KS)} {g : LK} {rem : KS} {cur : Option (List Int)} (hm : S.h[m]? = some (some (.mo (.mit n g.1 g.2.1 g.2.2 rem cur)))) (hj : S.h[j]? = some (some (.mo (.sets n' ls (some (i, g)))))) (hi : (ls.getD i none).isSome = true) {v : Value} (hv : RepV (MS N S.h ρ) w (.it m) ρ v) (ty : TypeId) :
    (rem = [] ∧ (Instr.next v false ty).run P w = .ok (.tuple #[.bool false]) w) ∨ ∃ y ∈ rem, ∃ (k u : Value) (w' : World) (p : Place), (Instr.next v false ty).run P w = .ok (.tuple #[.bool true, k, u]) w' ∧ ρ[m]? = some p ∧ Upd p.foot w w' ∧ MXRep w' p (.mit n g.1 g.2.1 g.2.2 (rem.erase y) (some y)) ∧ ∀ b, p.foot b → Lies w' b := by
  obtain ⟨p, hp, rfl⟩ := hv
  obtain ⟨p', hp', h0, h1, h2, seen, h3, h4, h5⟩ := R.hr.obj m _ hm
  have : p' = p := Option.some.inj (hp'.symm.trans hp)
  subst this
  obtain ⟨q, hq, vs, hS⟩ := R.hr.obj j _ hj
  obtain ⟨b, k1, k2, k3, es1, clock1, k4, k5⟩ := hS.has i _ (getD_isSome hi)
  have k5 := k5 _ rfl rfl
  obtain ⟨mb, es, clock⟩ := g
  have e3 : mb = b ∧ es = es1 ∧ clock = clock1 := by
    have : (mb, es, clock) = (b, es1, clock1) := k5
    simpa using this
  obtain ⟨rfl, rfl, rfl⟩ := e3
  simp only at h3 h4 h5
  rw [h1]
  have hold : ∀ x ∈ es.toList, x.born < clock := k4.born
  rcases run_next_at (P := P) h3 k4.blk hold (Nat.le_refl _) ty with ⟨e1, e2⟩ | ⟨e, he, w1, hw1, e2⟩
  · refine .inl ⟨?_, e2⟩
    have : (leftOf es seen) = #[] := Array.eq_empty_of_size_eq_zero e1
    rw [this] at h4
    have := h4.length_eq
    simp at this
    exact List.eq_nil_of_length_eq_zero this.symm
  · have hek : e.key ∈ rem.map keyV := h4.mem_iff.1 (List.mem_map.2 ⟨e, he, rfl⟩)
    obtain ⟨y, hy, hye⟩ := List.mem_map.1 hek
    have hes : e ∈ es.toList := by simp [leftOf] at he ⊢; exact he.1
    have hrlt : p'.blk < w.heap.size := (Array.getElem?_eq_some_iff.1 h3).1
    have hw1h : w1.heap = w.heap := by rcases hw1 with rfl | rfl <;> rfl
    have hU : Upd p'.foot w { w1 with heap := w1.heap.setIfInBounds p'.blk (.mapIter (some mb) clock (seen.push e.born) clock) } := by
      rw [h2]
      have u1 : Upd (fun k => k = p'.blk) w w1 := by
        rcases hw1 with rfl | rfl
        · exact Upd.refl _ _
        · exact Upd.ofExt (Ext.toDrew w)
      exact u1.trans (upd_setObj _)
    have hnew : ({ w1 with heap := w1.heap.setIfInBounds p'.blk (.mapIter (some mb) clock (seen.push e.born) clock) } : World).heap[p'.blk]? = some (.mapIter (some mb) clock (seen.push e.born) clock) := by
      show (w1.heap.setIfInBounds _ _)[_]? = _
      simp [hw1h, hrlt]
    refine .inr ⟨y, hy, e.key, e.val, _, p', e2, hp, hU, ⟨fun x hx => ?_, h1, h2, seen.push e.born, hnew, ?_, fun x hx => ?_⟩, fun b hb => ?_⟩
    · rcases hx with hx | hx
      · exact h0 x (.inl (List.mem_of_mem_erase hx))
      · have ex : y = x := Option.some.inj hx
        subst ex
        exact h0 y (.inl hy)
    · have hl : leftOf es (seen.push e.born) = (leftOf es seen).filter fun x => x.born != e.born := by
        unfold leftOf
        rw [Array.filter_filter]
        congr 1
        funext x
        simp only [Array.contains_push, Bool.not_or]
        rw [Bool.and_comm]
        simp [bne, Bool.beq_comm]
      have hnd : ((leftOf es seen).toList.map (·.born)).Nodup := by
        have : ((leftOf es seen).toList.map (·.born)).Sublist (es.toList.map (·.born)) := by
          unfold leftOf
          rw [Array.toList_filter]
          exact List.filter_sublist.map _
        exact this.nodup k4.stamps
      have hfil : ∀ (l : List MapEntry), (l.map (·.born)).Nodup → e ∈ l → (l.map (·.key)).Perm (e.key :: ((l.filter fun x => x.born != e.born).map (·.key))) := by
        intro l
        induction l with
        | nil => intro _ h; cases h
        | cons x l ih =>
          intro hn hx
          rw [List.map_cons, List.nodup_cons] at hn
          by_cases hxe : x = e
          · subst hxe
            have : (l.filter fun y => y.born != x.born) = l := List.filter_eq_self.2 fun y hy => by
              simp only [bne_iff_ne, ne_eq]
              exact fun hc => hn.1 (by rw [← hc]; exact List.mem_map.2 ⟨y, hy, rfl⟩)
            simp [this]
          · have hel : e ∈ l := (List.mem_cons.1 hx).resolve_left fun h => hxe h.symm
            have hne : (x.born != e.born) = true := by
              simp only [bne_iff_ne, ne_eq]
              exact fun hc => hn.1 (by rw [hc]; exact List.mem_map.2 ⟨e, hel, rfl⟩)
            rw [List.filter_cons, if_pos hne, List.map_cons, List.map_cons]
            exact ((ih hn.2 hel).cons x.key).trans (List.Perm.swap e.key x.key _)
      have P1 := hfil _ hnd he
      rw [hl, Array.toList_filter]
      have P2 : (rem.map keyV).Perm (keyV y :: (rem.erase y).map keyV) := (List.perm_cons_erase hy).map keyV
      have P3 := P1.symm.trans (h4.trans P2)
      rw [← hye] at P3
      exact List.Perm.cons_inv P3
    · have ex : y = x := Option.some.inj hx
      subst ex
      exact ⟨e, hes, hye.symm, by simp⟩
    · rw [h2] at hb
      exact ⟨_, rfl, (), by rw [show b = p'.blk from hb]; exact hnew⟩

/-- A region that opens with the step of a loop over a map: what follows upon its end, and upon each that may come. -/
theorem Tr.next (hF : FOk F P) {id : Nat} {ops : Array Oper} (hnd : noDefer ops = true) {o : Oper} {rest : List Oper} (hops : ops.toList = o :: rest) {x : Operand} (ho : o.op = .next x false) (hw : wantedD ops S o = some true) {m j n n' i : Nat} {ls : List (Option KS)} {g : LK} {rem : KS} {cur : Option (List Int)} (hx : opd S.fr x = .it m) (hm : S.h[m]? = some (some (.mo (.mit n g.1 g.2.1 g.2.2 rem cur)))) (hj : S.h[j]? = some (some (.mo (.sets n' ls (some (i, g)))))) (hmj : m ≠ j) (hi : (ls.getD i none).isSome = true)
    (h0 : rem = [] → ∃ S' vs o0 o', gseq P Γ ops rest ⟨setD S.fr o.dst (.tup 1 (L1 [.bool false])), (S.h.set j (some (.mo (.sets n' ls none)))).set m none⟩ o0 = some (S', vs, o') ∧ allP vs ∧ Q .normal S' Y)
    (h1 : ∀ y ∈ rem, ∃ S' vs o0 o', gseq P Γ ops rest ⟨setD S.fr o.dst (.tup 3 (L1 [.bool true])), S.h.set m (some (.mo (.mit n g.1 g.2.1 g.2.2 (rem.erase y) (some y))))⟩ o0 = some (S', vs, o') ∧ allP vs ∧ Q .normal S' Y) : Tr P Γ F B L Y (.region id ops false) S Q := fun N ρ a w R y mk b => by
  refine wpIn_region_list ?_
  rw [hops]
  have hd : ∀ c, o.op ≠ .defer c := fun c e => by rw [ho] at e; cases e
  have hl' : ∀ o' ∈ rest, o' ∈ ops := fun o' ho' => by
    have : o' ∈ ops.toList := by rw [hops]; exact List.mem_cons_of_mem _ ho'
    simpa using this
  have hdef : ∀ v, (a.put o.dst v).defers = a.defers := fun v => by cases ho : o.dst <;> simp [Act.put]
  have rx := opd_rep R x
  rw [hx] at rx
  unfold wpListIn
  rw [if_pos (wantedD_sound R hw)]
  have hex : execOp a.eval o = (do pure (.value (← Instr.next (a.eval x) false o.type))) := by unfold execOp; rw [ho]
  have hlt : m < S.h.length := (List.getElem?_eq_some_iff.1 hm).1
  rcases next_view R hm hj hi rx o.type with ⟨e1, e2⟩ | ⟨ky, hky, k, u, w', p, e2, hp, hU, hO, hC⟩
  · obtain ⟨S', vs, o0, o', g1, g2, g3⟩ := h0 e1
    obtain ⟨q, hq, vsj, hS⟩ := R.hr.obj j _ hj
    obtain ⟨R1, st1⟩ := R.setMo hj hq (x' := .sets n' ls none) ⟨vsj, hS.unlock⟩ fun b hb => hS.lies hb
    have R2 : Rel P Γ N ⟨S.fr, (S.h.set j (some (.mo (.sets n' ls none)))).set m none⟩ ρ a w := ⟨R1.hr.kill m, R1.fr.out (Outl.kill m)⟩
    have R3 := setD_rel R2 o.dst (d := .tup 1 (L1 [.bool false])) (v := .tuple #[.bool false]) ⟨#[.bool false], rfl, rfl, fun jj hjj => by
      have : jj = 0 := by omega
      subst this; exact ⟨_, rfl, rfl⟩⟩
    refine does_wpIn hF hd (G := fun v w2 => v = .tuple #[.bool false] ∧ w2 = w) (Does.value (s := Instr.next (a.eval x) false o.type) hex e2 ⟨rfl, rfl⟩) fun v w2 ⟨hv, hw2⟩ => ?_
    subst hv hw2
    refine gseq_sound hF hnd rest hl' R3 g1 g2 fun ρ' a' w3 R' st hdf => ?_
    exact Tr.done R y mk b g3 R' ((st1.trans (Step.kill m)).trans st.st) (fun k p _ hp => st.pl k p hp) (hdf.trans (hdef _))
  · obtain ⟨S', vs, o0, o', g1, g2, g3⟩ := h1 ky hky
    have st1 := Step.write (h := S.h) (o' := .mo (.mit n g.1 g.2.1 g.2.2 (rem.erase ky) (some ky))) hm hp hU
    have R1 : Rel P Γ N ⟨S.fr, S.h.set m (some (.mo (.mit n g.1 g.2.1 g.2.2 (rem.erase ky) (some ky))))⟩ ρ a w' := ⟨R.hr.write hm hp hU hC hO, R.fr.out (Outl.write trivial hm hp hU)⟩
    have R3 := setD_rel R1 o.dst (d := .tup 3 (L1 [.bool true])) (v := .tuple #[.bool true, k, u]) ⟨#[.bool true, k, u], rfl, rfl, fun jj hjj => by
      match jj, hjj with
      | 0, _ => exact ⟨_, rfl, rfl⟩
      | 1, _ => exact ⟨_, rfl, trivial⟩
      | 2, _ => exact ⟨_, rfl, trivial⟩⟩
    refine does_wpIn hF hd (G := fun v w2 => v = .tuple #[.bool true, k, u] ∧ w2 = w') (Does.value (s := Instr.next (a.eval x) false o.type) hex e2 ⟨rfl, rfl⟩) fun v w2 ⟨hv, hw2⟩ => ?_
    subst hv hw2
    refine gseq_sound hF hnd rest hl' R3 g1 g2 fun ρ' a' w3 R' st hdf => ?_
    exact Tr.done R y mk b g3 R' (st1.trans st.st) (fun k p _ hp => st.pl k p hp) (hdf.trans (hdef _))
/-- The parts of such a region. -/
def nxX (ops : Array Oper) : Operand := match ops.toList with
  | o :: _ => match o.op with
    | .next x _ => x
    | _ => .tmp 0
  | [] => .tmp 0
def nxD (ops : Array Oper) : Option Tmp := match ops.toList with
  | o :: _ => o.dst
  | [] => none
def nxR (ops : Array Oper) : List Oper := ops.toList.tail
def nxOk (ops : Array Oper) : Bool := match ops.toList with
  | o :: _ => match o.op with
    | .next _ false => o.guard.isNone && noDefer ops
    | _ => false
  | [] => false
theorem nxOk_spec {ops : Array Oper} (h : nxOk ops = true) : noDefer ops = true ∧ ∃ o, ops.toList = o :: nxR ops ∧ o.op = .next (nxX ops) false ∧ o.guard = none ∧ o.dst = nxD ops := by
  unfold nxOk at h
  unfold nxX nxD nxR
  split at h
  · rename_i o rest hops
    rw [hops]
    split at h
    · rename_i x ho
      simp only [Bool.and_eq_true, Option.isNone_iff_eq_none] at h
      refine ⟨h.2, o, rfl, ?_, h.1, rfl⟩
      simp only [ho]
    · cases h
  · cases h
def outG (live σ : List Nat) (L : Nat) (r : St × List Prop × Orc) : List DV × DH × List Prop × Bool := ((comp live σ r.1).fr, (comp live σ r.1).h, r.2.1, sigB σ L r.1.h.length)
/-- A step of a loop over a map, where it stands. -/
theorem TrG.nx (hX : HX F P) {K : List KI} {ops : Array Oper} {fr : List DV} {h : DH} (hK : regHead K = some (ops, tailS K)) (hok : nxOk ops = true) (m j i n : Nat) (ls : List (Option KS)) (g : LK) (rem : KS) (cur : Option (List Int)) (live σ : List Nat) (fr0 : List DV) (h0 : DH) (σ1 : List Nat) (fr1 : List Int → List DV) (h1 : List Int → DH)
    (hx : opd fr (nxX ops) = .it m) (hm : h[m]? = some (some (.mo (.mit n g.1 g.2.1 g.2.2 rem cur)))) (hj : h[j]? = some (some (.mo (.sets n ls (some (i, g)))))) (hmj : m ≠ j) (hi : (ls.getD i none).isSome = true) (hc : isCode (tailS K) = true)
    (c0 : (gseq P Γ ops (nxR ops) ⟨setD fr (nxD ops) (.tup 1 (L1 [.bool false])), (h.set j (some (.mo (.sets n ls none)))).set m none⟩ ⟨[], [], [], []⟩).map (outG live σ L) = some (fr0, h0, [], true))
    (c1 : ∀ y, (gseq P Γ ops (nxR ops) ⟨setD fr (nxD ops) (.tup 3 (L1 [.bool true])), h.set m (some (.mo (.mit n g.1 g.2.1 g.2.2 (rem.erase y) (some y))))⟩ ⟨[], [], [], []⟩).map (outG live σ1 L) = some (fr1 y, h1 y, [], true))
    (k0 : rem = [] → TrG P Γ F B L Y Q (tailS K) ⟨fr0, h0⟩) (k1 : ∀ y ∈ rem, TrG P Γ F B L Y Q (tailS K) ⟨fr1 y, h1 y⟩) : TrG P Γ F B L Y Q K ⟨fr, h⟩ := by
  have go : ∀ {S : St} {live σ : List Nat} {fr' : List DV} {h' : DH}, (gseq P Γ ops (nxR ops) S ⟨[], [], [], []⟩).map (outG live σ L) = some (fr', h', [], true) → TrG P Γ F B L Y Q (tailS K) ⟨fr', h'⟩ → ∃ S' vs o0 o', gseq P Γ ops (nxR ops) S o0 = some (S', vs, o') ∧ allP vs ∧ TrG P Γ F B L Y Q (tailS K) S' := by
    intro S live σ fr' h' hc0 hk
    cases hr : gseq P Γ ops (nxR ops) S ⟨[], [], [], []⟩ with
    | none => rw [hr] at hc0; cases hc0
    | some r =>
      obtain ⟨S1, v1, o1⟩ := r
      rw [hr] at hc0
      simp only [Option.map_some, outG, Option.some.injEq, Prod.mk.injEq] at hc0
      obtain ⟨rfl, rfl, rfl, hs⟩ := hc0
      exact ⟨S1, _, _, _, hr, trivial, TrK.le (SLe.comp live σ S1 hs) hc hk⟩
  unfold regHead at hK
  split at hK
  · rename_i id ops' k'
    have e := Option.some.inj hK
    simp only [tailS, Prod.mk.injEq, and_true] at e
    subst e
    obtain ⟨hnd, o, q1, q2, q3, q4⟩ := nxOk_spec hok
    exact Tr.next (S := ⟨fr, h⟩) hX.f hnd q1 q2 (by unfold wantedD; rw [q3]) hx hm hj hmj hi (fun e => by rw [q4]; exact go c0 (k0 e)) (fun y hy => by rw [q4]; exact go (c1 y) (k1 y hy))
  · cases hK
end
end Go.Proofs.YtekkngkphejfcaaDoor
